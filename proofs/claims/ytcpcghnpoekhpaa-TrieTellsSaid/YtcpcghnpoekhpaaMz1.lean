/- What the laws of this seat need, part 1. -/
import Derived.WalkKit
import Derived.WalkSpells
import Derived.WalkLawsBesides
import Derived.Lib.Hide
import Derived.Laws.AppendOwnNone
import Derived.Laws.CopyOwn
import Derived.BigQuiet
import Derived.Deep.QuietTactic
import Derived.OrdersHeld
import Derived.MapKept
import Derived.Laws.StructEq
import Derived.Great.BuildSlice
import Derived.Laws.IdiomStrings
/- Base lemmas of this prover: byte arrays, slices of strings that came in or were made. No program in sight. -/
set_option linter.unusedSimpArgs false
set_option linter.unusedVariables false
set_option maxRecDepth 100000
set_option maxHeartbeats 4000000
namespace Go.Proofs.Ytcpcghnpoekhpaa
open Go.RowKit
def bt (x : ByteArray) (i : Nat) : Nat := if h : i < x.size then x[i].toNat else 0
theorem bt_eq {x : ByteArray} {i : Nat} (h : i < x.size) : bt x i = x[i].toNat := by simp [bt, h]
theorem bt_lt (x : ByteArray) (i : Nat) : bt x i < 256 := by
 unfold bt; split
 ·exact UInt8.toNat_lt _
 ·omega
theorem bt_data (x : ByteArray) (i : Nat) : bt x i = (x.data.toList.getD i 0).toNat := by
 unfold bt
 split
 ·rename_i h
  have h2 : i < x.data.size := h
  rw [List.getD_eq_getElem?_getD, Array.getElem?_toList, Array.getElem?_eq_getElem h2]
  rfl
 ·rename_i h
  have h2 : ¬ i < x.data.size := h
  rw [List.getD_eq_getElem?_getD, Array.getElem?_toList, Array.getElem?_eq_none (by omega)]
  rfl
def Strs (w : World) (a : Option Addr) (len : Nat) (ss : List ByteArray) : Prop :=
 len = ss.length ∧ (0 < len → ∃ b off, a = some ⟨b, off, none⟩ ∧ b < w.heap.size ∧ ∀ i (h : i < ss.length), w.cell? ⟨b, off + i, none⟩ = some (.string ss[i]))
theorem Strs.below {w w' : World} {a : Option Addr} {len : Nat} {ss : List ByteArray} (h : Strs w a len ss) {B : Nat} (hB : w.heap.size ≤ B) (hb : Below B w w') : Strs w' a len ss := by
 refine ⟨h.1, fun h0 => ?_⟩
 obtain ⟨b, off, rfl, hblk, hc⟩ := h.2 h0
 have := hb.size
 exact ⟨b, off, rfl, by omega, fun i hi => (hb.cell (p := ⟨b, off + i, none⟩) (by show b < B; omega)).trans (hc i hi)⟩
def OwnS (e : TypeId) (B : Nat) (w : World) (v : Value) (ss : List ByteArray) : Prop := w.ownsRow B e 1 v ss.length (ss.map .string)
theorem OwnS.lt {e : TypeId} {B : Nat} {w : World} {v : Value} {ss : List ByteArray} (h : OwnS e B w v ss) : ∀ k, v.ownBlock = some k → B ≤ k ∧ k < w.heap.size := World.ownsRow.lt h
theorem OwnS.nil (e : TypeId) (B : Nat) (w : World) : OwnS e B w (.slice none 0 0) [] := World.ownsRow_nil _ _ _ _
theorem OwnS.mono {e : TypeId} {B B' : Nat} {w : World} {v : Value} {ss : List ByteArray} (h : OwnS e B w v ss) (hB : B' ≤ B) : OwnS e B' w v ss := by
 obtain ⟨hl, hv⟩ := h
 refine ⟨hl, ?_⟩
 rcases hv with ⟨rfl, hn⟩ | ⟨g, cap, cur, rfl, hB2, hheap, h1, h2, h3, h4⟩
 ·exact .inl ⟨rfl, hn⟩
 ·exact .inr ⟨g, cap, cur, rfl, by omega, hheap, h1, h2, h3, h4⟩
theorem OwnS.below {e : TypeId} {B C : Nat} {w w' : World} {v : Value} {ss : List ByteArray} (h : OwnS e B w v ss) (hC : ∀ k, v.ownBlock = some k → k < C) (hb : Below C w w') : OwnS e B w' v ss := by
 obtain ⟨hl, hv⟩ := h
 refine ⟨hl, ?_⟩
 rcases hv with ⟨rfl, hn⟩ | ⟨g, cap, cur, rfl, hB2, hheap, h1, h2, h3, h4⟩
 ·exact .inl ⟨rfl, hn⟩
 ·exact .inr ⟨g, cap, cur, rfl, hB2, by rw [hb.block g (hC g rfl)]; exact hheap, h1, h2, h3, h4⟩
end Go.Proofs.Ytcpcghnpoekhpaa
/- Worlds that change at some blocks alone; owned rows cut, read, and appended to from whatever source. No program in sight. -/
set_option linter.unusedSimpArgs false
set_option linter.unusedVariables false
set_option maxRecDepth 100000
set_option maxHeartbeats 4000000
namespace Go.Proofs.Ytcpcghnpoekhpaa
open Go.RowKit
structure Chg (S : Nat → Prop) (w w' : World) : Prop where
 os : w'.os = w.os
 tape : w'.tape = w.tape
 output : w'.output = w.output
 size : w.heap.size ≤ w'.heap.size
 block : ∀ k, k < w.heap.size → ¬ S k → w'.heap[k]? = w.heap[k]?
theorem Chg.refl (S : Nat → Prop) (w : World) : Chg S w w := ⟨rfl, rfl, rfl, Nat.le_refl _, fun _ _ _ => rfl⟩
theorem Chg.trans {S : Nat → Prop} {a b c : World} (h : Chg S a b) (k : Chg S b c) : Chg S a c :=
 ⟨k.os.trans h.os, k.tape.trans h.tape, k.output.trans h.output, Nat.le_trans h.size k.size, fun i hi hs => (k.block i (Nat.lt_of_lt_of_le hi h.size) hs).trans (h.block i hi hs)⟩
theorem Chg.mono {S T : Nat → Prop} {a b : World} (h : Chg S a b) (hT : ∀ k, k < a.heap.size → S k → T k) : Chg T a b :=
 ⟨h.os, h.tape, h.output, h.size, fun k hk hs => h.block k hk fun hs' => hs (hT k hk hs')⟩
theorem Chg.below {S : Nat → Prop} {a b : World} (h : Chg S a b) {B : Nat} (hB : B ≤ a.heap.size) (hS : ∀ k, k < a.heap.size → S k → B ≤ k) : Below B a b :=
 ⟨h.os, h.tape, h.output, h.size, fun k hk => h.block k (by omega) fun hs => by have := hS k (by omega) hs; omega⟩
theorem Chg.of_below {a b : World} (h : Below a.heap.size a b) (S : Nat → Prop) : Chg S a b := ⟨h.os, h.tape, h.output, h.size, fun k hk _ => h.block k hk⟩
theorem Chg.of_grown {a b : World} {row : Option Nat} (h : a.grownBy b row) : Chg (fun k => row = some k) a b :=
 ⟨h.os, h.tape, h.output, h.size, fun k hk hs => h.block k hk fun e => hs e.symm⟩
theorem Chg.drew (S : Nat → Prop) (w : World) : Chg S w w.drew := ⟨rfl, rfl, rfl, Nat.le_refl _, fun _ _ _ => rfl⟩
theorem Chg.alloc (S : Nat → Prop) (w : World) (o : Obj) : Chg S w (w.alloc o) := ⟨rfl, rfl, rfl, by simp, fun k hk _ => Below.heap_alloc w o k hk⟩
theorem Chg.cell {S : Nat → Prop} {a b : World} (h : Chg S a b) {p : Addr} (hp : p.block < a.heap.size) (hs : ¬ S p.block) : b.cell? p = a.cell? p := World.cell?_of_block (w := a) (h.block p.block hp hs)
theorem Chg.owns {S : Nat → Prop} {a b : World} (h : Chg S a b) {B : Nat} {e : TypeId} {sz : Nat} {v : Value} {n : Nat} {xs : List Value} (ho : a.ownsRow B e sz v n xs) (hs : ∀ k, v.ownBlock = some k → ¬ S k) : b.ownsRow B e sz v n xs := by
 obtain ⟨h1, h2⟩ := ho
 refine ⟨h1, ?_⟩
 rcases h2 with h2 | ⟨g, cap, cur, rfl, hB, hheap, r⟩
 ·exact .inl h2
 ·have hlt : g < a.heap.size := lt_of_block hheap
  exact .inr ⟨g, cap, cur, rfl, hB, (h.block g hlt (hs g rfl)).trans hheap, r⟩
theorem owns_take {w : World} {B : Nat} {e : TypeId} {sz : Nat} {a : Option Addr} {n cap : Nat} {xs : List Value} (h : w.ownsRow B e sz (.slice a n cap) n xs) {m : Nat} (hm : m ≤ n) : w.ownsRow B e sz (.slice a m cap) m (xs.take (m * sz)) := by
 obtain ⟨h1, h2⟩ := h
 have hle : m * sz ≤ n * sz := Nat.mul_le_mul_right _ hm
 refine ⟨by rw [List.length_take, h1]; omega, ?_⟩
 rcases h2 with ⟨hv, hn⟩ | ⟨g, cap', cur, hv, hB, hheap, h3, h4, h5, h6⟩
 ·cases hv; exact .inl ⟨by rw [show m = 0 by omega], by omega⟩
 ·cases hv
  refine .inr ⟨g, cap, cur, rfl, hB, hheap, by omega, h4, h5, ?_⟩
  rw [← h6, List.take_take, Nat.min_eq_left hle]
def Src (w : World) (x : Value) (m : Nat) (news : List Value) : Prop :=
 (x = .slice none 0 0 ∧ m = 0 ∧ news = []) ∨ ∃ ad c, x = .slice (some ad) m c ∧ ∀ j u, news[j]? = some u → w.cell? (ad.add j) = some u
theorem Src.of_owns {w : World} {B : Nat} {e : TypeId} {sz : Nat} {v : Value} {n : Nat} {xs : List Value} (h : w.ownsRow B e sz v n xs) : Src w v n xs := by
 have h0 := h
 rcases h.2 with ⟨rfl, hn⟩ | ⟨g, cap, cur, rfl, hB, hheap, h3, h4, h5, h6⟩
 ·exact .inl ⟨rfl, hn, List.eq_nil_of_length_eq_zero (by rw [h.1, hn]; simp)⟩
 ·exact .inr ⟨_, cap, rfl, fun j u hj => h0.cells (g := g) rfl j u hj⟩
theorem run_append_src {P : Program} (w : World) (t ty : TypeId) (base : Nat) (e : TypeId) (i : TypeInfo) (z : Value) (size bytes : Nat) (ht : P.underlying t = some (.slice e)) (hi : P.info? e = some i) (hz : i.zero = some z)
  (hsize : i.size = size) (hby : i.bytes = bytes) (hzs : z.cells.size = size) (hsz : 0 < size)
  (v : Value) (n : Nat) (xs : List Value) (hown : w.ownsRow base e size v n xs)
  (x : Value) (m : Nat) (news : List Value) (hl : news.length = m * size) (hsrc : Src w x m news) (h1 : ∀ u ∈ news, u.oneCell' = true)
  (h63 : n + m ≤ maxLen) (hbytes : (n + m) * bytes ≤ 140737488355328) (hbase : base ≤ w.heap.size) :
  ∃ v' w', (Builtin.append_ #[t, t] ty #[v, x]).run P w = .ok v' w' ∧
   w'.ownsRow base e size v' (n + m) (xs ++ news) ∧ w'.ownsRow base e size v n xs ∧ w.grownBy w' v.ownBlock ∧ (v'.ownBlock = v.ownBlock ∨ v'.ownBlock = some w.heap.size) ∧ (v' = .slice none 0 0 ↔ v = .slice none 0 0 ∧ m = 0) := by
 rcases hsrc with ⟨rfl, rfl, rfl⟩ | ⟨ad, c, rfl, hnews⟩
 ·have hr := run_append_owned_none (P := P) (w := w) base t ty e i size ht hi v n xs hown
  exact ⟨v, w, hr, by simpa using hown, hown, World.grownBy.refl _ _, .inl rfl, by simp⟩
 ·obtain ⟨v', w', hr, h2, h3, h4⟩ := run_append_own (P := P) w base t ty e i z size bytes ht hi hz hsize hby hzs hsz v n xs hown ad m c news hl hnews h1 h63 hbytes hbase
  refine ⟨v', w', hr, h2, ?_, h3, ?_, h4⟩
  all_goals
   subst hsize
   subst hby
   have hsmall : n + m ≤ 9223372036854775807 := by simp only [maxLen] at h63; omega
   rcases hown.2 with ⟨rfl, rfl⟩ | ⟨g', cap', cur, rfl, hbg, hg, hnc, hcm, hcs, htake⟩
  ·have hx : xs = [] := List.eq_nil_of_length_eq_zero (by simpa using hown.1)
   subst hx
   exact World.ownsRow_nil w' base e i.size
  ·by_cases hroom : n + m ≤ cap'
   ·have hfit : n * i.size + news.length ≤ cur.size := by rw [hl, hcs, ← Nat.add_mul]; exact Nat.mul_le_mul_right _ hroom
    have hr2 := run_append_room (P := P) w t ty e i ht hi g' n cap' cur hg ad m c news hl hnews h1 hroom hfit
    rw [hr] at hr2
    have hw : w' = _ := (Result.ok.inj hr2).2
    subst hw
    refine ⟨hown.1, .inr ⟨g', cap', _, rfl, hbg, setRow_heap w g' cur _ e _ hg, hnc, hcm, ?_, ?_⟩⟩
    ·simp only [List.size_toArray, List.length_append, List.length_take, List.length_drop, Array.length_toList]
     omega
    ·rw [htake, List.append_assoc]
     have : (xs ++ (news ++ cur.toList.drop (n * i.size + news.length))).take (n * i.size) = xs := by
      rw [← hown.1]; exact List.take_left
     simpa using this
   ·have holds : ∀ j u, xs[j]? = some u → w.cell? ((⟨g', 0, none⟩ : Addr).add j) = some u := hown.cells (g := g') rfl
    have hr2 := run_append_grow (P := P) w t ty e i z ht hi hz ⟨g', 0, none⟩ n cap' xs hown.1 holds ad m c news hl hnews (by omega) (by omega) (growslice_fits (by omega) hbytes)
    rw [hr] at hr2
    have hw : w' = _ := (Result.ok.inj hr2).2
    subst hw
    have hlt : g' < w.heap.size := (hown.lt g' rfl).2
    exact ⟨hown.1, .inr ⟨g', cap', cur, rfl, hbg, (heap_alloc_old w.drew _ hlt).trans hg, hnc, hcm, hcs, htake⟩⟩
  ·by_cases hm : m = 0
   ·exact .inl (by rw [h4.2 ⟨rfl, hm⟩])
   ·have hx : xs = [] := List.eq_nil_of_length_eq_zero (by simpa using hown.1)
    subst hx
    have hr2 := run_append_nil (P := P) w t ty e i z ht hi hz ad m c news hl hnews (by omega) (by omega) (by have hb := hbytes; simp only [Nat.zero_add] at hb; omega)
    rw [hr] at hr2
    have hv : v' = _ := (Result.ok.inj hr2).1
    subst hv
    exact .inr rfl
  ·by_cases hroom : n + m ≤ cap'
   ·have hfit : n * i.size + news.length ≤ cur.size := by rw [hl, hcs, ← Nat.add_mul]; exact Nat.mul_le_mul_right _ hroom
    have hr2 := run_append_room (P := P) w t ty e i ht hi g' n cap' cur hg ad m c news hl hnews h1 hroom hfit
    rw [hr] at hr2
    have hv : v' = _ := (Result.ok.inj hr2).1
    subst hv
    exact .inl rfl
   ·have holds : ∀ j u, xs[j]? = some u → w.cell? ((⟨g', 0, none⟩ : Addr).add j) = some u := hown.cells (g := g') rfl
    have hr2 := run_append_grow (P := P) w t ty e i z ht hi hz ⟨g', 0, none⟩ n cap' xs hown.1 holds ad m c news hl hnews (by omega) (by omega) (growslice_fits (by omega) hbytes)
    rw [hr] at hr2
    have hv : v' = _ := (Result.ok.inj hr2).1
    subst hv
    exact .inr rfl
section
variable {P : Program} {ops : Array Oper} {o : Oper} {a : Act} {Q : Exit → Act → World → Prop}
end
end Go.Proofs.Ytcpcghnpoekhpaa
/- The ghost machine, part 1: its values, its state, and what they mean in a world of the model. No program in sight. -/
set_option linter.unusedSimpArgs false
set_option linter.unusedVariables false
set_option maxRecDepth 100000
set_option maxHeartbeats 4000000
namespace Go.Proofs.Ytcpcghnpoekhpaa.A
open Go
inductive KK where
 | int (k : IntKind)
 | str
 | ints (n : Nat)
 deriving DecidableEq, Inhabited
def isI64 : Value → Bool
 | .int k _ => decide (k = .i64)
 | _ => false
def KK.ok : KK → Value → Bool
 | .int k, .int k' _ => decide (k = k')
 | .str, .string _ => true
 | .ints n, .agg cs => decide (cs.size = n) && cs.toList.all isI64
 | _, _ => false
def numV : Value → Int
 | .int _ n => n
 | _ => 0
def keq : Value → Value → Bool
 | .int _ a, .int _ b => decide (a = b)
 | .string a, .string b => decide (a = b)
 | .agg a, .agg b => decide (a.toList.map numV = b.toList.map numV)
 | _, _ => false
theorem keq_iff {kk : KK} {a b : Value} (ha : kk.ok a = true) (hb : kk.ok b = true) : keq a b = true ↔ a = b := by
 cases kk with
 | int k => cases a <;> simp [KK.ok] at ha; cases b <;> simp [KK.ok] at hb; subst ha; subst hb; simp [keq]
 | str => cases a <;> simp [KK.ok] at ha; cases b <;> simp [KK.ok] at hb; simp [keq]
 | ints n =>
  cases a <;> simp [KK.ok] at ha; cases b <;> simp [KK.ok] at hb
  rename_i x y
  have key : ∀ l l' : List Value, l.all isI64 = true → l'.all isI64 = true → l.map numV = l'.map numV → l = l' := by
   intro l
   induction l with
   | nil => intro l' _ _ h; cases l' <;> simp at h ⊢
   | cons v l ih =>
    intro l' h1 h2 h
    cases l' with
    | nil => simp at h
    | cons u l' =>
     simp only [List.all_cons, Bool.and_eq_true, List.map_cons, List.cons.injEq] at h1 h2 h ⊢
     refine ⟨?_, ih l' h1.2 h2.2 h.2⟩
     cases v <;> simp [isI64] at h1
     cases u <;> simp [isI64] at h2
     have := h.1
     simp only [numV] at this
     rw [h1.1, h2.1, this]
  simp only [keq, decide_eq_true_eq, Value.agg.injEq]
  refine ⟨fun h => ?_, fun h => by rw [h]⟩
  have := key x.toList y.toList (by simpa using ha.2) (by simpa using hb.2) h
  exact Array.toList_inj.1 this
inductive C where
 | val (v : Value)
 | sl (n : Nat) (cells : List C)
 | nil
 | mem (cells : List C) (off : Nat)
 | map (kk : KK) (ks : List Value) (vs : List C)
 deriving Inhabited
def plain : Value → Bool
 | .bool _ | .int _ _ | .string _ | .pointer none | .nilFunc | .nilIface | .map none => true
 | _ => false
inductive CRep (w : World) (S : Nat → Prop) : Value → C → Prop
 | val {v : Value} : plain v = true → CRep w S v (.val v)
 | nil : CRep w S (.slice none 0 0) .nil
 | sl0 {a : Option Addr} {cap : Nat} : CRep w S (.slice a 0 cap) (.sl 0 [])
 | sl {b off n cap : Nat} {cells : List C} (vs : Nat → Value) : S b → n ≤ cap →
   (∀ j, j < cells.length → w.cell? ⟨b, off + j, none⟩ = some (vs j)) → (∀ j (h : j < cells.length), CRep w S (vs j) cells[j]) →
   CRep w S (.slice (some ⟨b, off, none⟩) n cap) (.sl n cells)
 | mem {b base off : Nat} {cells : List C} (vs : Nat → Value) : S b →
   (∀ j, j < cells.length → w.cell? ⟨b, base + j, none⟩ = some (vs j)) → (∀ j (h : j < cells.length), CRep w S (vs j) cells[j]) →
   CRep w S (.pointer (some ⟨b, base + off, none⟩)) (.mem cells off)
 | map0 {kk : KK} : CRep w S (.map none) (.map kk [] [])
 | map {kk : KK} {b clock : Nat} {es : Array MapEntry} {ks : List Value} {cs : List C} (us : Nat → Value) : S b → w.heap[b]? = some (.map es clock) → es.toList.map MapEntry.key = ks → cs.length = ks.length →
   (∀ i (h : i < es.size), es[i].val = us i) → (∀ i (h : i < cs.length), CRep w S (us i) cs[i]) → (∀ k ∈ ks, kk.ok k = true) → CRep w S (.map (some b)) (.map kk ks cs)
theorem CRep.frame {w w' : World} {S S' : Nat → Prop} {v : Value} {c : C} (h : CRep w S v c) (hb : ∀ b, S b → w'.heap[b]? = w.heap[b]?) (hS : ∀ b, S b → S' b) : CRep w' S' v c := by
 induction h with
 | val h => exact .val h
 | nil => exact .nil
 | sl0 => exact .sl0
 | sl vs hs hn hc _ ih => exact .sl vs (hS _ hs) hn (fun j hj => (World.cell?_of_block (hb _ hs)).trans (hc j hj)) ih
 | mem vs hs hc _ ih => exact .mem vs (hS _ hs) (fun j hj => (World.cell?_of_block (hb _ hs)).trans (hc j hj)) ih
 | map0 => exact .map0
 | map us hs hh hk hl hv _ ho ih => exact .map us (hS _ hs) ((hb _ hs).trans hh) hk hl hv ih ho
structure GM where
 ks : List Value
 vs : List C
 born : List Nat
 clock : Nat
 l1 : vs.length = ks.length
 l2 : born.length = ks.length
 lt : ∀ i ∈ born, i < clock
 nd : born.Nodup
instance : Inhabited GM := ⟨⟨[], [], [], 0, rfl, rfl, fun _ h => (by cases h), List.nodup_nil⟩⟩
def MRep (w : World) (S : Nat → Prop) (b : Nat) (kk : KK) (m : GM) : Prop :=
 ∃ es : Array MapEntry, w.heap[b]? = some (.map es m.clock) ∧ es.toList.map MapEntry.key = m.ks ∧ es.toList.map MapEntry.born = m.born ∧ (∀ i (h : i < es.size) (h2 : i < m.vs.length), CRep w S es[i].val m.vs[i]) ∧ ∀ k ∈ m.ks, kk.ok k = true
theorem MRep.frame {w w' : World} {S S' : Nat → Prop} {b : Nat} {kk : KK} {m : GM} (h : MRep w S b kk m) (hb : ∀ b, S b → w'.heap[b]? = w.heap[b]?) (hS : ∀ b, S b → S' b) (ho : w'.heap[b]? = w.heap[b]?) : MRep w' S' b kk m := by
 obtain ⟨es, h1, h2, h3, h4, h5⟩ := h
 exact ⟨es, ho.trans h1, h2, h3, fun i hi hi2 => (h4 i hi hi2).frame hb hS, h5⟩
inductive Sh where
 | st
 | sl (e : TypeId) (ks : List Sh)
 deriving Inhabited
abbrev Path := List (Nat × Nat)
inductive Pv where
 | mk (v : Value) (b : Option Nat) (kids : List Pv)
def Pv.v : Pv → Value
 | .mk v _ _ => v
def Pv.b : Pv → Option Nat
 | .mk _ b _ => b
def Pv.kids : Pv → List Pv
 | .mk _ _ ks => ks
abbrev Pv.of (v : Value) : Pv := .mk v none []
instance : Inhabited Pv := ⟨.of undef⟩
instance : Coe Pv Value := ⟨Pv.v⟩
mutual
def Pv.blks : Pv → List Nat
 | .mk _ b ks => b.toList ++ blksL ks
def blksL : List Pv → List Nat
 | [] => []
 | p :: ps => p.blks ++ blksL ps
end
def Pv.get? : Pv → Path → Option Pv
 | pv, [] => some pv
 | .mk _ _ ks, (k, _) :: p => match ks[k]? with | some q => q.get? p | none => none
inductive RC where
 | st (c : C)
 | own (e : TypeId) (n : Nat) (cells : List C)
 | map (kk : KK) (m : GM)
 | tree (sh : Sh) (c : C) (h : Option Path)
 | me (f : Option FuncId)
 | dead
 deriving Inhabited
def ownB : Value → Option Nat
 | .map r => r
 | v => v.ownBlock
def meV (f : FuncId) (b : Nat) : Value := .func (.func f) #[.pointer (some ⟨b, 0, none⟩)] #[]
def meOk : Option FuncId → Nat → Value → Prop
 | some f, b, v => v = meV f b
 | none, b, v => v = .pointer none ∨ v = .pointer (some ⟨b, 0, none⟩)
def RC.isMe : RC → Bool
 | .me _ => true
 | _ => false
def RC.owner : RC → Bool
 | .own .. | .map .. | .tree .. => true
 | _ => false
def RC.blk : RC → Pv → Nat → Prop
 | .own .., v, b => v.v.ownBlock = some b
 | .map .., v, b => ownB v.v = some b
 | .tree .., v, b => b ∈ v.blks
 | _, _, _ => False
inductive Root where
 | none
 | box (row : List RC)
 | loose (row : List RC)
 deriving Inhabited
def Root.row : Root → List RC
 | .none => []
 | .box r => r
 | .loose r => r
inductive X where
 | c (c : C)
 | view (t o : Nat)
 | mv (t o : Nat)
 | sub (t o lo hi : Nat)
 | ptr (t o : Nat)
 | eptr (t o k : Nat)
 | mem (cells : List C) (off : Nat)
 | fn (f : FuncId) (caps : List Nat)
 | tv (t o : Nat) (p : Path)
 | tp (t o : Nat) (p : Path) (k off : Nat)
 | bfn (f : FuncId) (t : Nat)
 | undef
 deriving Inhabited
inductive V where
 | one (x : X)
 | agg (xs : List X)
 | tup (vs : List (Bool × List X))
 | undef
 | nop
 deriving Inhabited
structure St where
 s : List V
 r : List Root
inductive K where
 | int (k : IntKind)
 | bool
 | str
 | sl
 | raw
 deriving DecidableEq
structure TI where
 desc : TypeDesc
 size : Nat
 bytes : Nat
 zero : Value
 cells : List K
 kids : List Sh := []
abbrev TT := TypeId → Option TI
def TOk (P : Program) (T : TT) : Prop := ∀ t ti, T t = some ti → P.underlying t = some ti.desc ∧ ∃ i, P.info? t = some i ∧ i.size = ti.size ∧ i.bytes = ti.bytes ∧ i.zero = some ti.zero ∧ ti.zero.cells.size = ti.size
def szOf (T : TT) (e : TypeId) : Nat := match T e with | some ti => ti.size | none => 0
abbrev nilSl : Value := .slice none 0 0
abbrev holeC : C := .mem [] 0
def holeAt : Option (List Nat) → Nat → Option (List Nat)
 | some (k :: p), i => if k = i then some p else none
 | _, _ => none
inductive CRepT (T : TT) (w : World) (S : Nat → Prop) : Option (List Nat) → Sh → Value → Pv → C → Prop
 | st {v : Value} {u : Value} {c : C} : CRep w S v c → CRepT T w S none .st v (.mk u none []) c
 | nil {e : TypeId} {ks : List Sh} {c : C} : (c = .nil ∨ c = .sl 0 []) → CRepT T w S none (.sl e ks) nilSl (.mk nilSl none []) c
 | hole {sh : Sh} {v : Value} : CRepT T w S (some []) sh v (.mk v none []) holeC
 | node {h : Option (List Nat)} {e : TypeId} {ks : List Sh} {g n cap : Nat} {xs : List Value} {cells : List C} {kids : List Pv} :
   h ≠ some [] → (∀ k p, h = some (k :: p) → k < xs.length) → w.ownsRow 0 e (szOf T e) (.slice (some ⟨g, 0, none⟩) n cap) n xs → cells.length = xs.length → kids.length = xs.length →
   (∀ k (h1 : k < xs.length) (h2 : k < kids.length) (h3 : k < cells.length), CRepT T w S (holeAt h k) (ks.getD (k % szOf T e) .st) xs[k] kids[k] cells[k]) →
   CRepT T w S h (.sl e ks) (.slice (some ⟨g, 0, none⟩) n cap) (.mk (.slice (some ⟨g, 0, none⟩) n cap) (some g) kids) (.sl n cells)
def pathN (p : Path) : List Nat := p.map Prod.fst
def Sh.to : Sh → Path → Sh
 | sh, [] => sh
 | .sl _ ks, (_, off) :: p => (ks.getD off .st).to p
 | .st, _ => .st
def pathOk (T : TT) : Sh → Path → Prop
 | _, [] => True
 | .sl e ks, (k, off) :: p => k % szOf T e = off ∧ pathOk T (ks.getD off .st) p
 | .st, _ :: _ => False
def RCRep (T : TT) (w : World) (S : Nat → Prop) (v : Pv) : RC → Prop
 | .st c => CRep w S v.v c
 | .own e n cells => ∃ xs, w.ownsRow 0 e (szOf T e) v.v n xs ∧ xs.length = cells.length ∧ ∀ j (h : j < cells.length) (h2 : j < xs.length), CRep w S xs[j] cells[j]
 | .map kk m => ∃ b, v.v = .map (some b) ∧ MRep w S b kk m
 | .tree sh c h => CRepT T w S (h.map pathN) sh v.v v c ∧ v.blks.Nodup ∧ (∃ e ks, sh = .sl e ks) ∧ (∀ p, h = some p → p ≠ [] ∧ pathOk T sh p)
 | .me _ => True
 | .dead => True
def ownOf (R : Root) (ph : Nat → Pv) (o : Nat) (b : Nat) : Prop :=
 match R.row[o]? with
 | some rc => rc.blk (ph o) b
 | none => False
def owns (r : List Root) (bx : Nat → Nat) (ph : Nat → Nat → Pv) (t : Nat) : Option Nat → Nat → Prop
 | none, b => match r.getD t .none with | .box _ => bx t = b | _ => False
 | some o, b => ownOf (r.getD t .none) (ph t) o b
def RootRep (T : TT) (w : World) (S : Nat → Prop) (b : Nat) (ph : Nat → Pv) : Root → Prop
 | .none => True
 | .box row => (∃ arr e, w.heap[b]? = some (.cells arr e (0, 0)) ∧ arr.size = row.length ∧ ∀ o, o < row.length → arr[o]? = some (ph o).v) ∧ (∀ o (h : o < row.length), RCRep T w S (ph o) row[o]) ∧ ∀ o f, row[o]? = some (.me f) → meOk f b (ph o).v
 | .loose row => ∀ o (h : o < row.length), RCRep T w S (ph o) row[o]
def XRep (T : TT) (w : World) (S : Nat → Prop) (r : List Root) (bx : Nat → Nat) (ph : Nat → Nat → Pv) (v : Value) : X → Prop
 | .c c => CRep w S v c
 | .view t o => ∃ e n cells, (r.getD t .none).row[o]? = some (.own e n cells) ∧ v = (ph t o).v
 | .mv t o => ∃ kk m, (r.getD t .none).row[o]? = some (.map kk m) ∧ v = (ph t o).v
 | .sub t o lo hi => ∃ e n cells a cap a', (r.getD t .none).row[o]? = some (.own e n cells) ∧ (ph t o).v = .slice a n cap ∧ lo ≤ hi ∧ hi ≤ n ∧ v = .slice a' (hi - lo) (cap - lo) ∧ (lo = 0 → a' = a) ∧ (lo < hi → ∃ g, a = some ⟨g, 0, none⟩ ∧ a' = some ⟨g, lo * szOf T e, none⟩)
 | .ptr t o => ∃ row, r.getD t .none = .box row ∧ o < row.length ∧ v = .pointer (some ⟨bx t, o, none⟩)
 | .eptr t o k => ∃ e n cells g cap, (r.getD t .none).row[o]? = some (.own e n cells) ∧ (ph t o).v = .slice (some ⟨g, 0, none⟩) n cap ∧ v = .pointer (some ⟨g, k, none⟩)
 | .mem cells off => ∃ b base, ∃ vs : Nat → Value, v = .pointer (some ⟨b, base + off, none⟩) ∧ S b ∧ (∀ j, j < cells.length → w.cell? ⟨b, base + j, none⟩ = some (vs j)) ∧ ∀ j (h : j < cells.length), CRep w S (vs j) cells[j]
 | .fn f caps => v = .func (.func f) #[] (caps.map fun t => .pointer (some ⟨bx t, 0, none⟩)).toArray ∧ ∀ t ∈ caps, ∃ row, r.getD t .none = .box row ∧ 0 < row.length
 | .tv t o p => ∃ sh c h q, (r.getD t .none).row[o]? = some (.tree sh c h) ∧ (ph t o).get? p = some q ∧ pathOk T sh p ∧ (∃ e ks, sh.to p = .sl e ks) ∧ (q.b = none → q.v = nilSl) ∧ v = q.v
 | .tp t o p k off => ∃ sh c h q e ks g n cap, (r.getD t .none).row[o]? = some (.tree sh c h) ∧ (ph t o).get? p = some q ∧ pathOk T sh p ∧ sh.to p = .sl e ks ∧ q.b = some g ∧ q.v = .slice (some ⟨g, 0, none⟩) n cap ∧ (∃ i, k = i * szOf T e + off) ∧ v = .pointer (some ⟨g, k, none⟩)
 | .bfn f t => (∃ row, r.getD t .none = .box row ∧ 0 < row.length) ∧ v = meV f (bx t)
 | .undef => True
section
variable (T : TT) (w : World) (S : Nat → Prop) (r : List Root) (bx : Nat → Nat) (ph : Nat → Nat → Pv)
def XsRep (cs : Array Value) (xs : List X) : Prop := cs.size = xs.length ∧ ∀ j (h : j < xs.length) (h2 : j < cs.size), XRep T w S r bx ph cs[j] xs[j]
def PartRep (v : Value) (p : Bool × List X) : Prop :=
 if p.1 = true then ∃ cs, v = .agg cs ∧ XsRep T w S r bx ph cs p.2 else ∃ x, p.2 = [x] ∧ XRep T w S r bx ph v x
def VRep (v : Value) : V → Prop
 | .one x => XRep T w S r bx ph v x
 | .agg xs => ∃ cs, v = .agg cs ∧ XsRep T w S r bx ph cs xs
 | .tup vs => ∃ us, v = .tuple us ∧ us.size = vs.length ∧ ∀ j (h : j < vs.length) (h2 : j < us.size), PartRep T w S r bx ph us[j] vs[j]
 | .undef => True
 | .nop => v = undef
end
def gndB : Option (Nat × Array Value) := none
def gndV : List Nat := []
def errV (v : Value) : Prop := v = .nilIface ∨ ∃ t p, v = .iface t p
def GndT (w : World) (S : Nat → Prop) : Prop :=
 match gndB with
 | none => True
 | some (g, cs) => S g ∧ ∃ e z, w.heap[g]? = some (.cells cs e z)
def GndV (w : World) (S : Nat → Prop) : Prop := ∀ g ∈ gndV, S g ∧ ∃ v e z, w.heap[g]? = some (.cells #[v] e z) ∧ errV v
def Gnd (w : World) (S : Nat → Prop) : Prop := GndT w S ∧ GndV w S
theorem GndT.frame {w w' : World} {S S' : Nat → Prop} (h : GndT w S) (hb : ∀ b, S b → w'.heap[b]? = w.heap[b]?) (hS : ∀ b, S b → S' b) : GndT w' S' := by
 unfold GndT at h ⊢
 generalize gndB = o at h ⊢
 cases o with
 | none => trivial
 | some p =>
  obtain ⟨h1, e, z, h2⟩ := h
  exact ⟨hS _ h1, e, z, (hb _ h1).trans h2⟩
theorem Gnd.frame {w w' : World} {S S' : Nat → Prop} (h : Gnd w S) (hb : ∀ b, S b → w'.heap[b]? = w.heap[b]?) (hS : ∀ b, S b → S' b) : Gnd w' S' := by
 refine ⟨h.1.frame hb hS, fun g hg => ?_⟩
 obtain ⟨h1, v, e, z, h2, h3⟩ := h.2 g hg
 exact ⟨hS _ h1, v, e, z, (hb _ h1).trans h2, h3⟩
def LowG (w : World) (S : Nat → Prop) : Prop := (∀ b, S b → b < w.heap.size) ∧ Gnd w S
structure Heap (T : TT) (w : World) (S : Nat → Prop) (r : List Root) (bx : Nat → Nat) (ph : Nat → Nat → Pv) : Prop where
 root : ∀ t, RootRep T w S (bx t) (ph t) (r.getD t .none)
 inj : ∀ t κ t' κ' b, owns r bx ph t κ b → owns r bx ph t' κ' b → t = t' ∧ κ = κ'
 free : ∀ t κ b, owns r bx ph t κ b → ¬ S b ∧ b < w.heap.size
 low : LowG w S
structure Fr where
 on : Nat → Prop
 pin : Nat → Nat
 df : List Deferred := []
instance : CoeFun Fr fun _ => Nat → Prop := ⟨Fr.on⟩
structure Rel (T : TT) (w0 : World) (S0 : Nat → Prop) (F : Fr) (st : St) (a : Act) (w : World) (S : Nat → Prop) (bx : Nat → Nat) (ph : Nat → Nat → Pv) : Prop where
 size : a.tmps.size = st.s.length
 rsize : st.s.length + 1 ≤ st.r.length ∧ ∀ t, st.s.length < t → bx t = F.pin t
 defers : a.defers = F.df
 heap : Heap T w S st.r bx ph
 mine : ∀ t κ b, owns st.r bx ph t κ b → w0.heap.size ≤ b ∨ F b
 slot : ∀ i, i < st.s.length → VRep T w S st.r bx ph (a.tmps.getD i undef) (st.s.getD i .undef)
 keep : ∀ b, S0 b → S b
 new : ∀ b, S b → S0 b ∨ w0.heap.size ≤ b ∨ F b
 chg : Chg F.on w0 w
def Rels (T : TT) (w0 : World) (S0 : Nat → Prop) (F : Fr) (st : St) (a : Act) (w : World) : Prop := ∃ S bx ph, Rel T w0 S0 F st a w S bx ph ∧ st.r.getD st.s.length .none = .none
end Go.Proofs.Ytcpcghnpoekhpaa.A
/- The ghost machine, part 2: what its operations do. All that may be symbolic goes through the functions of a record J, so that the machine can be run with J a variable. -/
set_option linter.unusedSimpArgs false
set_option linter.unusedVariables false
set_option maxRecDepth 100000
set_option maxHeartbeats 4000000
namespace Go.Proofs.Ytcpcghnpoekhpaa.A
open Go
inductive Arg where
 | v (agg : Bool) (cs : List C)
 | root (R : Root)
 | fn (f : FuncId)
 | clo (f : FuncId) (caps : List Nat)
 | virt (R : Root)
 | any
structure RV where
 tup : Bool
 parts : List (Bool × List RC)
structure J where
 arith : BinOp → IntKind → Int → Int → Int
 cmp : BinOp → Int → Int → Bool
 scmp : BinOp → ByteArray → ByteArray → Bool
 bcmp : BinOp → Bool → Bool → Bool
 bnot : Bool → Bool
 wrap : IntKind → Int → Int
 imin : Int → Int → Int
 imax : Int → Int → Int
 cat : ByteArray → ByteArray → ByteArray
 ssize : ByteArray → Nat
 sat : ByteArray → Nat → Int
 sext : ByteArray → Nat → Nat → ByteArray
 ofNat : Nat → Int
 toNat : Int → Nat
 add : Nat → Nat → Nat
 sub : Nat → Nat → Nat
 mul : Nat → Nat → Nat
 cell : List C → Nat → C
 ext : List C → Nat → Nat → List C
 app : List C → List C → List C
 set : List C → Nat → List C → List C
 rep : Nat → List C → List C
 clen : List C → Nat
 bytes : List C → ByteArray
 ofBytes : ByteArray → List C
 gi : C → Int
 gb : C → Bool
 gs : C → ByteArray
 gn : C → Nat
 gc : C → List C
 ok : K → C → Prop
 inb : Int → Nat → Prop
 le : Nat → Nat → Prop
 lei : Int → Int → Prop
 pos : Nat → Prop
 ne0 : Int → Prop
 eqb : Bool → Bool → Prop
 isBytes : List C → Prop
 vals : List C → Prop
 pc : FuncId → List Arg → RV → List Root → Prop
 mhas : List Value → Value → Bool
 mget : List Value → List C → Value → C → C
 mlen : List Value → Nat
 mnew : GM
 mset : GM → Value → C → GM
 ment : GM → Value → C → GM
 mborn : GM → Value → Int
 mstamp : GM → Int → C → GM
 mstamped : GM → Int → Prop
 mdel : GM → Value → GM
 pco : FuncId → TypeId → Nat → List C → List FuncId → Bool → Nat → List C → Prop
 pcn : FuncId → List Arg → List RC → Prop
 pcm : FuncId → KK → GM → List Arg → GM → Prop
 pcl : FuncId → KK → GM → GM → Prop
 ieq : List Int → List Int → Bool
 seq : TypeId → Nat → Prop
 meq : List Int → ByteArray → List Int → ByteArray → Bool
 mseq : TypeId → Nat → Prop
variable (T : TT) (j : J)
def descOf (e : TypeId) : TypeDesc := match T e with | some ti => ti.desc | none => .invalid
def constC : Value → C
 | .slice none 0 0 => .nil
 | v => .val v
def okConst : Value → Bool
 | .slice none 0 0 => true
 | v => plain v
def constV (v : Value) : V :=
 match v with
 | .agg cs => if cs.toList.all okConst then .agg (cs.toList.map fun u => .c (constC u)) else .undef
 | v => if okConst v then .one (.c (constC v)) else .undef
def ev (s : List V) : Operand → V
 | .tmp t => s.getD t .undef
 | .const v => constV v
 | .func f => .one (.fn f [])
 | .global _ => .undef
def cellAt (cs : List C) (i : Nat) : C := cs.getD i .nil
def shape : K → C → C
 | .int k, c => .val (.int k (j.gi c))
 | .bool, c => .val (.bool (j.gb c))
 | .str, c => .val (.string (j.gs c))
 | .sl, c => .sl (j.gn c) (j.gc c)
 | .raw, c => c
def isAggD : TypeDesc → Bool
 | .struct _ | .array _ _ => true
 | _ => false
def cellsAt (ks : List K) (cells : List C) (at_ : Nat) : List C :=
 ks.zipIdx.map fun (k, i) => match k with | .raw => cellAt cells (at_ + i) | k => shape j k (j.cell cells (if i = 0 then at_ else j.add at_ i))
def okAt (ks : List K) (cells : List C) (at_ : Nat) : List Prop :=
 ks.zipIdx.map fun (k, i) => j.ok k (j.cell cells (if i = 0 then at_ else j.add at_ i))
def mk (agg : Bool) (xs : List X) : Option V :=
 if agg then some (.agg xs) else match xs with | [x] => some (.one x) | _ => none
def cX : C → X
 | .mem cells off => .mem cells off
 | c => .c c
def rcX (t o : Nat) : RC → X
 | .st c => cX c
 | .own _ _ _ => .view t o
 | .map .. => .mv t o
 | .tree .. => .tv t o []
 | .me _ => .undef
 | .dead => .undef
def rcB (t o : Nat) : RC → X
 | .me (some f) => .bfn f t
 | rc => rcX t o rc
def rowB (t : Nat) (row : List RC) (o n : Nat) : List X := ((row.drop o).take n).zipIdx.map fun (rc, i) => rcB t (o + i) rc
def rootOf (r : List Root) (t : Nat) : Root := r.getD t .none
def ownAt (r : List Root) (t o : Nat) : Option (TypeId × Nat × List C) :=
 match (rootOf r t).row[o]? with
 | some (.own e n cells) => some (e, n, cells)
 | _ => none
def treeAt (r : List Root) (t o : Nat) : Option (Sh × C × Option Path) :=
 match (rootOf r t).row[o]? with
 | some (.tree sh c h) => some (sh, c, h)
 | _ => none
def lenJ : C → Nat
 | .sl n _ => n
 | .nil => 0
 | c => j.gn c
def clsJ : C → List C
 | .sl _ cs => cs
 | .nil => []
 | c => j.gc c
def atJ : C → Path → C
 | c, [] => c
 | c, (k, _) :: p => atJ (j.cell (clsJ j c) k) p
def updJ (f : C → C) : C → Path → C
 | c, [] => f c
 | c, (k, _) :: p => .sl (lenJ j c) (j.set (clsJ j c) k [updJ f (j.cell (clsJ j c) k) p])
def slJ (c : C) : C := .sl (lenJ j c) (clsJ j c)
def mapAt (r : List Root) (t o : Nat) : Option (KK × GM) :=
 match (rootOf r t).row[o]? with
 | some (.map kk m) => some (kk, m)
 | _ => none
def nodeAt (r : List Root) (t o : Nat) (p : Path) : Option (TypeId × List Sh × Nat × List C) :=
 match treeAt r t o with
 | some (sh, c, _) => match sh.to p with | .sl e ks => some (e, ks, lenJ j (atJ j c p), clsJ j (atJ j c p)) | .st => none
 | none => none
def tpCells (t o : Nat) (p : Path) (ks : List Sh) (kds : List K) (cells : List C) (k off : Nat) : List X :=
 kds.zipIdx.map fun (kd, i) =>
  match ks.getD (off + i) .st, kd with
  | .sl _ _, .sl => .tv t o (p ++ [(if i = 0 then k else j.add k i, off + i)])
  | .sl _ _, _ => .undef
  | .st, .raw => .undef
  | .st, kd => cX (shape j kd (j.cell cells (if i = 0 then k else j.add k i)))
def mulSz (n sz : Nat) : Nat := if sz = 1 then n else j.mul n sz
def plus (a b : Nat) : Nat := if b = 0 then a else if a = 0 then b else j.add a b
def num : V → Option Int
 | .one (.c (.val (.int _ n))) => some n
 | _ => none
def cellsOfV : V → List X
 | .one .undef => []
 | .one x => [x]
 | .agg xs => xs
 | _ => []
def binV (op : BinOp) (t : TypeId) : V → V → Option (V × List Prop)
 | .one (.c (.val (.int k a))), .one (.c (.val (.int k' b))) =>
  match op with
  | .shl | .shr => some (.one (.c (.val (.int k (j.arith op k a b)))), [j.lei 0 b])
  | _ =>
  if k ≠ k' then none else
  match op with
  | .add | .sub | .mul | .and | .or | .xor | .andNot => some (.one (.c (.val (.int k (j.arith op k a b)))), [])
  | .quo | .rem => some (.one (.c (.val (.int k (j.arith op k a b)))), [j.ne0 b])
  | .eql | .neq | .lss | .leq | .gtr | .geq => some (.one (.c (.val (.bool (j.cmp op a b)))), [])
  | _ => none
 | .one (.c (.val (.string a))), .one (.c (.val (.string b))) =>
  match op with
  | .add => some (.one (.c (.val (.string (j.cat a b)))), [j.le (j.add (j.ssize a) (j.ssize b)) 9223372036854775807])
  | .eql | .neq | .lss | .leq | .gtr | .geq => some (.one (.c (.val (.bool (j.scmp op a b)))), [])
  | _ => none
 | .one (.c (.val (.bool a))), .one (.c (.val (.bool b))) =>
  match descOf T t, op with
  | .bool, .eql | .bool, .neq => some (.one (.c (.val (.bool (j.bcmp op a b)))), [])
  | _, _ => none
 | _, _ => none
def unV (op : UnOp) : V → Option (V × List Prop)
 | .one (.c (.val (.bool a))) => match op with | .not => some (.one (.c (.val (.bool (j.bnot a)))), []) | _ => none
 | .one (.c (.val (.int k a))) => match op with | .neg => some (.one (.c (.val (.int k (j.arith .sub k 0 a)))), []) | _ => none
 | _ => none
def isIntD : TypeDesc → Bool
 | .int _ => true
 | _ => false
def convV (st : St) (src dst : TypeId) (x : V) : Option (V × List Prop) :=
 match T src, T dst with
 | some ts, some td =>
  match td.desc with
  | .int k =>
   match x with
   | .one (.c (.val (.int _ n))) => if isIntD ts.desc then some (.one (.c (.val (.int k (j.wrap k n)))), []) else none
   | _ => none
  | .string =>
   match x with
   | .one (.c (.val (.string s))) => some (.one (.c (.val (.string s))), [])
   | .one x =>
    match ts.desc with
    | .slice e =>
     match descOf T e with
     | .int .u8 =>
      match x with
      | .c (.sl n cells) => some (.one (.c (.val (.string (j.bytes cells)))), [j.isBytes cells, j.le n (j.clen cells), j.le (j.clen cells) n])
      | .c .nil => some (.one (.c (.val (.string ByteArray.empty))), [])
      | .view t o =>
       match ownAt st.r t o with
       | some (e', _, cells) => if e' = e ∧ szOf T e = 1 then some (.one (.c (.val (.string (j.bytes cells)))), [j.isBytes cells]) else none
       | none => none
      | _ => none
     | _ => none
    | _ => none
   | _ => none
  | _ => none
 | _, _ => none
def fieldOf (s : TypeId) (f : Nat) : Option Field :=
 match descOf T s with
 | .struct fields => fields[f]?
 | _ => none
def fldAddrV (st : St) (s : TypeId) (f : Nat) (x : V) : Option (V × List Prop) :=
 match fieldOf T s f with
 | some fd =>
  match T fd.type with
  | some tf =>
   if tf.size = 0 then none else
   match x with
   | .one (.ptr t o) => if o + fd.offset < (rootOf st.r t).row.length then some (.one (.ptr t (o + fd.offset)), []) else none
   | .one (.eptr t o k) => some (.one (.eptr t o (plus j k fd.offset)), [])
   | .one (.mem cells k) => some (.one (.mem cells (plus j k fd.offset)), [])
   | .one (.tp t o p k off) => some (.one (.tp t o p (plus j k fd.offset) (off + fd.offset)), [])
   | _ => none
  | none => none
 | none => none
def fldV (s : TypeId) (f : Nat) (x : V) : Option (V × List Prop) :=
 match fieldOf T s f with
 | some fd =>
  match T fd.type, x with
  | some tf, .agg xs =>
   if isAggD tf.desc then some (.agg ((xs.drop fd.offset).take tf.size), [])
   else match xs[fd.offset]? with | some x => some (.one x, []) | none => none
  | _, _ => none
 | none => none
def elemOf (t : TypeId) : Option (TypeId × TI) :=
 match descOf T t with
 | .slice e => match T e with | some te => some (e, te) | none => none
 | _ => none
def idxAddrV (st : St) (t : TypeId) (x : V) (i : Option Int) : Option (V × List Prop) :=
 match elemOf T t, i with
 | some (e, te), some i =>
  match x with
  | .one (.c (.sl n cells)) => some (.one (.mem cells (mulSz j (j.toNat i) te.size)), [j.inb i n])
  | .one (.view t o) =>
   match ownAt st.r t o with
   | some (e', n, _) => if e = e' then some (.one (.eptr t o (mulSz j (j.toNat i) te.size)), [j.inb i n]) else none
   | none => none
  | .one (.sub t o lo hi) =>
   match ownAt st.r t o with
   | some (e', _, _) => if e = e' then some (.one (.eptr t o (mulSz j (plus j lo (j.toNat i)) te.size)), [j.inb i (if lo = 0 then hi else j.sub hi lo)]) else none
   | none => none
  | .one (.tv t o p) =>
   match nodeAt j st.r t o p with
   | some (e', _, n, _) => if e = e' then some (.one (.tp t o p (mulSz j (j.toNat i) te.size) 0), [j.inb i n]) else none
   | none => none
  | _ => none
 | _, _ => none
def idxV (t : TypeId) (x : V) (i : Option Int) : Option (V × List Prop) :=
 match descOf T t, x, i with
 | .string, .one (.c (.val (.string s))), some i => some (.one (.c (.val (.int .u8 (j.sat s (j.toNat i))))), [j.inb i (j.ssize s)])
 | _, _, _ => none
def cutV (n : Nat) (lo hi : Option (Option Int)) : Option (Nat × Nat × List Prop) :=
 match lo, hi with
 | none, none => some (0, n, [])
 | some (some l), none => some (j.toNat l, n, [j.lei 0 l, j.lei l (j.ofNat n)])
 | none, some (some h) => some (0, j.toNat h, [j.lei 0 h, j.lei h (j.ofNat n)])
 | some (some l), some (some h) => some (j.toNat l, j.toNat h, [j.lei 0 l, j.lei l h, j.lei h (j.ofNat n)])
 | _, _ => none
def sliceV (st : St) (t : TypeId) (x : V) (lo hi : Option (Option Int)) : Option (V × List Prop) :=
 match x with
 | .one (.c (.val (.string s))) =>
  match descOf T t with
  | .string => match cutV j (j.ssize s) lo hi with | some (l, h, obl) => some (.one (.c (.val (.string (j.sext s l h)))), obl) | none => none
  | _ => none
 | .one (.c (.sl n cells)) =>
  match elemOf T t with
  | some (_, te) => match cutV j n lo hi with | some (l, h, obl) => some (.one (.c (.sl (if l = 0 then h else j.sub h l) (j.ext cells (mulSz j l te.size) (mulSz j h te.size)))), obl) | none => none
  | none => none
 | .one (.view u o) =>
  match elemOf T t, ownAt st.r u o with
  | some (e, _), some (e', n, _) =>
   if e = e' then
    match lo, hi with
    | none, none => some (.one (.view u o), [])
    | _, _ => match cutV j n lo hi with | some (l, h, obl) => some (.one (.sub u o l h), obl) | none => none
   else none
  | _, _ => none
 | _ => none
def loadV (st : St) (t : TypeId) (a : V) : Option (V × List Prop) :=
 match T t with
 | some ti =>
  if ti.size = 0 ∨ (isAggD ti.desc = false ∧ ti.size ≠ 1) then none else
  match a with
  | .one (.ptr t' o) => if o + ti.size ≤ (rootOf st.r t').row.length then (mk (isAggD ti.desc) (rowB t' (rootOf st.r t').row o ti.size)).map fun v => (v, []) else none
  | .one (.eptr t' o k) =>
   match ownAt st.r t' o with
   | some (_, _, cells) => if ti.cells.length ≠ ti.size then none else (mk (isAggD ti.desc) ((cellsAt j ti.cells cells k).map cX)).map fun v => (v, j.le (plus j k ti.size) (j.clen cells) :: okAt j ti.cells cells k)
   | none => none
  | .one (.mem cells k) => if ti.cells.length ≠ ti.size then none else (mk (isAggD ti.desc) ((cellsAt j ti.cells cells k).map cX)).map fun v => (v, j.le (plus j k ti.size) (j.clen cells) :: okAt j ti.cells cells k)
  | .one (.tp t' o p k off) =>
   match nodeAt j st.r t' o p with
   | some (e, ks, _, cells) => if ti.cells.length ≠ ti.size ∨ szOf T e < off + ti.size then none else (mk (isAggD ti.desc) (tpCells j t' o p ks ti.cells cells k off)).map fun v => (v, j.le (plus j k ti.size) (j.clen cells) :: okAt j ti.cells cells k)
   | none => none
  | _ => none
 | none => none
def lenV (st : St) (t : TypeId) (x : V) : Option (V × List Prop) :=
 match x with
 | .one (.c (.val (.string s))) => match descOf T t with | .string => some (.one (.c (.val (.int .i64 (j.ofNat (j.ssize s))))), []) | _ => none
 | .one (.c (.sl n _)) => match descOf T t with | .slice _ => some (.one (.c (.val (.int .i64 (j.ofNat n)))), []) | _ => none
 | .one (.c .nil) => match descOf T t with | .slice _ => some (.one (.c (.val (.int .i64 0))), []) | _ => none
 | .one (.view t' o) =>
  match descOf T t, ownAt st.r t' o with
  | .slice _, some (_, n, _) => some (.one (.c (.val (.int .i64 (j.ofNat n)))), [])
  | _, _ => none
 | .one (.sub _ _ lo hi) => match descOf T t with | .slice _ => some (.one (.c (.val (.int .i64 (j.ofNat (if lo = 0 then hi else j.sub hi lo))))), []) | _ => none
 | .one (.tv t' o p) =>
  match descOf T t, nodeAt j st.r t' o p with
  | .slice _, some (_, _, n, _) => some (.one (.c (.val (.int .i64 (j.ofNat n)))), [])
  | _, _ => none
 | _ => none
def buildX (fields : Array Field) : List X → List (Nat × V) → Option (List X)
 | xs, [] => some xs
 | xs, (i, v) :: ps =>
  match fields[i]? with
  | some fd =>
   match T fd.type with
   | some tf => if (cellsOfV v).length = tf.size ∧ fd.offset + (cellsOfV v).length ≤ xs.length ∧ (cellsOfV v) ≠ [] then buildX fields (xs.take fd.offset ++ cellsOfV v ++ xs.drop (fd.offset + (cellsOfV v).length)) ps else none
   | none => none
  | none => none
def buildV (t : TypeId) (ps : List (Nat × V)) : Option (V × List Prop) :=
 match T t with
 | some ti =>
  match ti.desc, constV ti.zero with
  | .struct fields, .agg zs => if fields.toList.all (fun f => (T f.type).isSome) then match buildX T fields zs ps with | some xs => some (.agg xs, []) | none => none else none
  | _, _ => none
 | none => none
/-! ### maps -/
def kkOf (t : TypeId) : Option KK :=
 match descOf T t with
 | .int k => some (.int k)
 | .string => some .str
 | _ => none
def keyOf : V → Option Value
 | .one (.c (.val v)) => some v
 | _ => none
def mapTy (t : TypeId) : Option (KK × TI) :=
 match descOf T t with
 | .map k e =>
  match kkOf T k, T e with
  | some kk, some te => if te.size = 1 ∧ isAggD te.desc = false then some (kk, te) else none
  | _, _ => none
 | _ => none
def zeroC (te : TI) : Option C :=
 match constV te.zero with
 | .one (.c c) => some c
 | _ => none
def lookOp (st : St) (o : Oper) : Option (V × List Prop) :=
 match o.op with
 | .lookup t x k ok =>
  match mapTy T t, keyOf (ev st.s k) with
  | some (kk, te), some k =>
   match zeroC te, te.cells with
   | some z, [kd] =>
    let put := fun (c : C) (b : Bool) (obl : List Prop) => if ok then some (V.tup [(false, [.c (shape j kd c)]), (false, [.c (.val (.bool b))])], obl) else some (V.one (.c (shape j kd c)), obl)
    match ev st.s x with
    | .one (.mv t' o') =>
     match mapAt st.r t' o' with
     | some (kk', m) => if kk = kk' ∧ kk.ok k = true then put (j.mget m.ks m.vs k z) (j.mhas m.ks k) [j.ok kd (j.mget m.ks m.vs k z)] else none
     | none => none
    | .one (.c (.map kk' ks vs)) => if kk = kk' ∧ kk.ok k = true then put (j.mget ks vs k z) (j.mhas ks k) [j.ok kd (j.mget ks vs k z)] else none
    | _ => none
   | _, _ => none
  | _, _ => none
 | .call { callee := .builtin .len, args, argTypes } =>
  match args.toList, argTypes.toList with
  | [x], [t] =>
   match descOf T t, ev st.s x with
   | .map _ _, .one (.mv t' o') => match mapAt st.r t' o' with | some (_, m) => some (.one (.c (.val (.int .i64 (j.ofNat (j.mlen m.ks))))), []) | none => none
   | .map _ _, .one (.c (.map _ ks _)) => some (.one (.c (.val (.int .i64 (j.ofNat (j.mlen ks))))), [])
   | _, _ => none
  | _, _ => none
 | _ => none
def pureOp (st : St) (gs : Option Bool) (o : Oper) : Option (V × List Prop) :=
 match o.op with
 | .move x | .assign x => some (ev st.s x, [])
 | .pick c a b =>
  match ev st.s c, gs with
  | .one (.c (.val (.bool t))), some g => some (if g then ev st.s a else ev st.s b, [j.eqb t g])
  | _, _ => none
 | .nilCheck x =>
  match ev st.s x with
  | .one (.ptr t o) => some (.one (.ptr t o), [])
  | .one (.eptr t o k) => some (.one (.eptr t o k), [])
  | .one (.mem cells k) => some (.one (.mem cells k), [])
  | .one (.tp t o p k off) => some (.one (.tp t o p k off), [])
  | .one (.fn f caps) => some (.one (.fn f caps), [])
  | .one (.bfn f t) => some (.one (.bfn f t), [])
  | _ => none
 | .binOp op t x y _ => binV T j op t (ev st.s x) (ev st.s y)
 | .unOp op _ x => unV j op (ev st.s x)
 | .convert src dst x => convV T j st src dst (ev st.s x)
 | .fieldAddr s x f => fldAddrV T j st s f (ev st.s x)
 | .field s x f => fldV T s f (ev st.s x)
 | .indexAddr t x i => idxAddrV T j st t (ev st.s x) (num (ev st.s i))
 | .index t x i => idxV T j t (ev st.s x) (num (ev st.s i))
 | .slice t x lo hi none => sliceV T j st t (ev st.s x) (lo.map fun l => num (ev st.s l)) (hi.map fun h => num (ev st.s h))
 | .extract x i =>
  match ev st.s x with
  | .tup vs =>
   match vs[i]? with
   | some (b, xs) => match mk b xs with | some v => some (v, []) | none => none
   | none => none
  | _ => none
 | .load t a => loadV T j st t (ev st.s a)
 | .call { callee := .builtin .len, args, argTypes } =>
  match args.toList, argTypes.toList with
  | [x], [t] => match lenV T j st t (ev st.s x) with | some r => some r | none => lookOp T j st o
  | _, _ => none
 | .build t parts => buildV T t (parts.toList.map fun p => (p.1, ev st.s p.2))
 | _ => lookOp T j st o
/-! ### what moves without the world -/
def mapV (f : X → X) : V → V
 | .one x => .one (f x)
 | .agg xs => .agg (xs.map f)
 | .tup vs => .tup (vs.map fun p => (p.1, p.2.map f))
 | .undef => .undef
 | .nop => .nop
def ofRoot (t : Nat) : X → Bool
 | .view u _ | .mv u _ | .sub u _ _ _ | .ptr u _ | .eptr u _ _ | .tv u _ _ | .tp u _ _ _ _ | .bfn _ u => u == t
 | .fn _ caps => caps.contains t
 | _ => false
def ofCell (t o : Nat) : X → Bool
 | .view u p | .mv u p | .sub u p _ _ | .eptr u p _ | .tv u p _ | .tp u p _ _ _ => u == t && p == o
 | _ => false
def kill (p : X → Bool) (s : List V) : List V := s.map (mapV fun x => if p x then .undef else x)
def Root.withRow (row : List RC) : Root → Root
 | .none => .none
 | .box _ => .box row
 | .loose _ => .loose row
def setCellR (r : List Root) (t o : Nat) (rc : RC) : List Root := r.set t ((r.getD t .none).withRow ((r.getD t .none).row.set o rc))
def pushR (r : List Root) (t : Nat) (rc : RC) : List Root := r.set t (.loose ((r.getD t .none).row ++ [rc]))
def stab (r : List Root) : X → Option C
 | .c c => some c
 | .view t o =>
  match (rootOf r t).row[o]? with
  | some (.own _ n cells) => some (.sl n cells)
  | _ => none
 | .mv t o =>
  match (rootOf r t).row[o]? with
  | some (.map kk m) => some (.map kk m.ks m.vs)
  | _ => none
 | .sub t o lo hi =>
  match (rootOf r t).row[o]? with
  | some (.own e _ cells) => some (.sl (if lo = 0 then hi else j.sub hi lo) (j.ext cells (mulSz j lo (szOf T e)) (mulSz j hi (szOf T e))))
  | _ => none
 | .mem cells off => some (.mem cells off)
 | .tv t o p =>
  match treeAt r t o with
  | some (_, c, none) => some (slJ j (atJ j c p))
  | _ => none
 | _ => none
def push (st : St) (x : X) : Option St :=
 match x with
 | .c c => some { st with r := pushR st.r st.s.length (.st c) }
 | .mem cells off => some { st with r := pushR st.r st.s.length (.st (.mem cells off)) }
 | .tv t o [] =>
  match treeAt st.r t o with
  | some (sh, c, none) => if t = st.s.length then none else some { s := kill (ofCell t o) st.s, r := pushR (setCellR st.r t o .dead) st.s.length (.tree sh c none) }
  | _ => none
 | .view t o =>
  match ownAt st.r t o with
  | some (e, n, cells) => if t = st.s.length then none else some { s := kill (ofCell t o) st.s, r := pushR (setCellR st.r t o .dead) st.s.length (.own e n cells) }
  | none => none
 | .mv t o =>
  match mapAt st.r t o with
  | some (kk, m) => if t = st.s.length then none else some { s := kill (ofCell t o) st.s, r := pushR (setCellR st.r t o .dead) st.s.length (.map kk m) }
  | none => none
 | .sub t o lo hi =>
  match ownAt st.r t o with
  | some (e, _, cells) => if t = st.s.length ∨ lo ≠ 0 then none else some { s := kill (ofCell t o) st.s, r := pushR (setCellR st.r t o .dead) st.s.length (.own e hi (j.ext cells 0 (mulSz j hi (szOf T e)))) }
  | none => none
 | _ => none
def cellOf : X → Option (Nat × Nat)
 | .view t o | .mv t o | .sub t o _ _ | .tv t o _ => some (t, o)
 | _ => none
def clash (x : X) (xs : List X) : Bool := match cellOf x with | some (t, o) => xs.any (ofCell t o) | none => false
def pushAll (st : St) : List X → Option St
 | [] => some st
 | x :: xs =>
  if clash x xs then none else
  match push T j st x with | some st' => pushAll st' xs | none => none
def frzX (sz : Nat) (t o n : Nat) (cells : List C) (x : X) : X :=
 if ofCell t o x then
  match x with
  | .view _ _ => .c (.sl n cells)
  | .sub _ _ lo hi => .c (.sl (if lo = 0 then hi else j.sub hi lo) (j.ext cells (mulSz j lo sz) (mulSz j hi sz)))
  | .eptr _ _ k => .mem cells k
  | x => x
 else x
def frzM (t o : Nat) (kk : KK) (m : GM) (x : X) : X := if ofCell t o x then (match x with | .mv _ _ => .c (.map kk m.ks m.vs) | _ => .undef) else x
def frzT (t o : Nat) (c : C) (x : X) : X := if ofCell t o x then (match x with | .tv _ _ p => .c (slJ j (atJ j c p)) | _ => .undef) else x
def freeze (st : St) (t o : Nat) : St :=
 match ownAt st.r t o with
 | some (e, n, cells) => { s := st.s.map (mapV (frzX j (szOf T e) t o n cells)), r := setCellR st.r t o (.st (.sl n cells)) }
 | none =>
  match mapAt st.r t o with
  | some (kk, m) => { s := st.s.map (mapV (frzM t o kk m)), r := setCellR st.r t o (.st (.map kk m.ks m.vs)) }
  | none =>
   match treeAt st.r t o with
   | some (_, c, none) => { s := st.s.map (mapV (frzT j t o c)), r := setCellR st.r t o (.st (slJ j c)) }
   | _ => st
def freezeX (st : St) : X → St
 | .view t o | .mv t o | .sub t o _ _ | .tv t o _ => freeze T j st t o
 | _ => st
def name (st : St) (d : Nat) : St := { s := kill (fun x => ofRoot d x || ofRoot st.s.length x) st.s, r := (st.r.set d (rootOf st.r st.s.length)).set st.s.length .none }
def toBox (st : St) : St := { st with r := st.r.set st.s.length (.box (rootOf st.r st.s.length).row) }
end Go.Proofs.Ytcpcghnpoekhpaa.A
/- The ghost machine, part 3: the operations that make or change memory, and calls; a region's run. -/
set_option linter.unusedSimpArgs false
set_option linter.unusedVariables false
set_option maxRecDepth 100000
set_option maxHeartbeats 4000000
namespace Go.Proofs.Ytcpcghnpoekhpaa.A
open Go
/-! ### what a function's contract says -/
def Arg.asRoot : Arg → Root
 | .root R => R
 | .virt R => R
 | _ => .none
def Arg.real : Arg → Bool
 | .virt _ => false
 | _ => true
def reals (args : List Arg) : Nat := (args.filter Arg.real).length
def ArgRep (w : World) (S : Nat → Prop) (bx : Nat → Nat) (b : Nat) (v : Value) : Arg → Prop
 | .v false cs => ∃ c, cs = [c] ∧ CRep w S v c
 | .v true cs => ∃ us : Array Value, v = .agg us ∧ us.size = cs.length ∧ ∀ k (h : k < cs.length) (h2 : k < us.size), CRep w S us[k] cs[k]
 | .root R => (∃ row, R = .box row ∧ 0 < row.length) ∧ v = .pointer (some ⟨b, 0, none⟩)
 | .fn f => v = .func (.func f) #[] #[]
 | .clo f caps => v = .func (.func f) #[] (caps.map fun t => Value.pointer (some ⟨bx t, 0, none⟩)).toArray
 | .virt _ => False
 | .any => True
def PartVal (φ : Nat → Pv) (o : Nat) (u : Value) (p : Bool × List RC) : Prop :=
 if p.1 = true then ∃ us : Array Value, u = .agg us ∧ us.size = p.2.length ∧ ∀ k (h : k < us.size), us[k] = (φ (o + k)).v else p.2.length = 1 ∧ u = (φ o).v
def PartVals (φ : Nat → Pv) : Nat → List Value → List (Bool × List RC) → Prop
 | _, [], [] => True
 | o, u :: us, p :: ps => PartVal φ o u p ∧ PartVals φ (o + p.2.length) us ps
 | _, _, _ => False
def RetRep (φ : Nat → Pv) (v : Value) (ret : RV) : Prop :=
 if ret.tup = true then ∃ us : Array Value, v = .tuple us ∧ PartVals φ 0 us.toList ret.parts else PartVals φ 0 [v] ret.parts
structure Gives (T : TT) (w : World) (S : Nat → Prop) (ra : List Root) (bx : Nat → Nat) (ph : Nat → Nat → Pv) (ret : RV) (upd : List Root) (v : Value) (w' : World) (S' : Nat → Prop) (bx' : Nat → Nat) (ph' : Nat → Nat → Pv) : Prop where
 heap : Heap T w' S' (.loose (ret.parts.flatMap (·.2)) :: upd) bx' ph'
 val : RetRep (ph' 0) v ret
 same : ∀ i, bx' (i + 1) = bx i
 keep : ∀ b, S b → S' b
 new : ∀ b, S' b → S b ∨ w.heap.size ≤ b ∨ ∃ t κ, owns ra bx ph t κ b
 mine : ∀ t κ b, owns (.loose (ret.parts.flatMap (·.2)) :: upd) bx' ph' t κ b → w.heap.size ≤ b ∨ ∃ t κ, owns ra bx ph t κ b
 chg : Chg (fun b => ∃ t κ, owns ra bx ph t κ b) w w'
def PC (P : Program) (T : TT) (f : FuncId) (args : List Arg) (ret : RV) (upd : List Root) : Prop :=
 ∀ (w : World) (S : Nat → Prop) (bx : Nat → Nat) (ph : Nat → Nat → Pv) (vs : List Value),
  Heap T w S (args.map Arg.asRoot) bx ph → vs.length = reals args → (∀ i (h : i < args.length) (h2 : i < vs.length), ArgRep w S bx (bx i) vs[i] args[i]) →
  Calls P f vs.toArray w fun e w' => ∃ v S' bx' ph', e = .returned v ∧ Gives T w S (args.map Arg.asRoot) bx ph ret upd v w' S' bx' ph'
def PCO (P : Program) (T : TT) (f : FuncId) (e : TypeId) (n : Nat) (cells : List C) (gs : List FuncId) (ret : Bool) (n' : Nat) (cells' : List C) : Prop :=
 ∀ (w : World) (S : Nat → Prop) (v : Value), (∀ b, S b → b < w.heap.size) → RCRep T w S (.of v) (.own e n cells) → (∀ b, v.ownBlock = some b → ¬ S b ∧ b < w.heap.size) →
  Calls P f (v :: gs.map fun g => Value.func (.func g) #[] #[]).toArray w fun en w' => ∃ z, en = .returned z ∧ Chg (fun b => v.ownBlock = some b) w w' ∧
   if ret = true then RCRep T w' S (.of z) (.own e n' cells') ∧ (∀ b, z.ownBlock = some b → b < w'.heap.size ∧ (w.heap.size ≤ b ∨ v.ownBlock = some b)) else z = .tuple #[] ∧ RCRep T w' S (.of v) (.own e n' cells')
def PCN (P : Program) (T : TT) (f : FuncId) (args : List Arg) (row : List RC) : Prop :=
 ∀ (w : World) (S : Nat → Prop) (bx : Nat → Nat) (ph : Nat → Nat → Pv) (vs : List Value),
  Heap T w S (args.map Arg.asRoot) bx ph → vs.length = reals args → (∀ i (h : i < args.length) (h2 : i < vs.length), ArgRep w S bx (bx i) vs[i] args[i]) →
  Calls P f vs.toArray w fun e w' => ∃ (b : Nat) (arr : Array Value) (t : TypeId) (S' : Nat → Prop) (bx' : Nat → Nat) (ph' : Nat → Nat → Pv),
   e = .returned (.pointer (some ⟨b, 0, none⟩)) ∧ w'.heap[b]? = some (.cells arr t (0, 0)) ∧ w.heap.size ≤ b ∧ ¬ S' b ∧ (∀ t κ, ¬ owns [Root.loose row] bx' ph' t κ b) ∧ 0 < row.length ∧
   Gives T w S (args.map Arg.asRoot) bx ph ⟨false, [(true, row)]⟩ [] (.agg arr) w' S' bx' ph'
def PCM (P : Program) (T : TT) (f : FuncId) (kk : KK) (m : GM) (args : List Arg) (m' : GM) : Prop :=
 ∀ (w : World) (S : Nat → Prop) (v : Value) (vs : List Value), (∀ b, S b → b < w.heap.size) → RCRep T w S (.of v) (.map kk m) → (∀ b, ownB v = some b → ¬ S b ∧ b < w.heap.size) → vs.length = args.length →
  (∀ i (h : i < args.length) (h2 : i < vs.length), ArgRep w S (fun _ => 0) 0 vs[i] args[i]) →
  Calls P f (v :: vs).toArray w fun en w' => en = .returned (.tuple #[]) ∧ Chg (fun b => ownB v = some b) w w' ∧ RCRep T w' S (.of v) (.map kk m')
def PCL (P : Program) (T : TT) (f : FuncId) (kk : KK) (m m' : GM) : Prop :=
 ∀ (w : World) (S : Nat → Prop) (v : Value), (∀ b, S b → b < w.heap.size) → RCRep T w S (.of v) (.map kk m) → (∀ b, ownB v = some b → ¬ S b ∧ b < w.heap.size) →
  Calls P f #[v] w fun en w' => ∃ b, en = .returned (.map (some b)) ∧ w.heap.size ≤ b ∧ b < w'.heap.size ∧ Chg (fun _ => False) w w' ∧ RCRep T w' S (.of (.map (some b))) (.map kk m')
def Enters (P : Program) (f : FuncId) : Prop := ∀ args w, (callFunc f args).run P w = .ok (.enter f args) w
/-! ### the record J as9 it is meant -/
def gi : C → Int | .val (.int _ n) => n | _ => 0
def gb : C → Bool | .val (.bool b) => b | _ => false
def gs : C → ByteArray | .val (.string s) => s | _ => ByteArray.empty
def gn : C → Nat | .sl n _ => n | _ => 0
def gc : C → List C | .sl _ cs => cs | _ => []
def extC (cs : List C) (lo hi : Nat) : List C := (cs.take hi).drop lo
def setC (cs : List C) (k : Nat) (us : List C) : List C := cs.take k ++ us ++ cs.drop (k + us.length)
def repC (n : Nat) (zs : List C) : List C := (List.replicate n zs).flatten
def bytesC (cs : List C) : ByteArray := ⟨(cs.map fun c => UInt8.ofNat (gi c).toNat).toArray⟩
def ofBytesC (s : ByteArray) : List C := s.data.toList.map fun b => .val (.int .u8 (b.toNat : Int))
def isBytesC (cs : List C) : Prop := ∀ c ∈ cs, ∃ b : UInt8, c = .val (.int .u8 (b.toNat : Int))
def satB (s : ByteArray) (i : Nat) : Int := (bt s i : Int)
def okK (k : K) (c : C) : Prop :=
 match k with
 | .int k => ∃ n, c = .val (.int k n)
 | .bool => ∃ b, c = .val (.bool b)
 | .str => ∃ s, c = .val (.string s)
 | .sl => c = .nil ∨ ∃ n cs, c = .sl n cs
 | .raw => True
def arithI (op : BinOp) (k : IntKind) (a b : Int) : Int :=
 match op with
 | .add => k.wrap (a + b)
 | .sub => k.wrap (a - b)
 | .mul => k.wrap (a * b)
 | .quo => k.wrap (a.tdiv b)
 | .rem => a.tmod b
 | .and => k.wrap ((BitVec.ofInt k.bits a) &&& (BitVec.ofInt k.bits b)).toNat
 | .or => k.wrap ((BitVec.ofInt k.bits a) ||| (BitVec.ofInt k.bits b)).toNat
 | .xor => k.wrap ((BitVec.ofInt k.bits a) ^^^ (BitVec.ofInt k.bits b)).toNat
 | .andNot => k.wrap ((BitVec.ofInt k.bits a) &&& ~~~(BitVec.ofInt k.bits b)).toNat
 | .shl => k.wrap (a * 2 ^ min b.toNat k.bits)
 | .shr => a.fdiv (2 ^ min b.toNat k.bits)
 | _ => 0
def cmpI (op : BinOp) (a b : Int) : Bool :=
 match op with
 | .eql => a == b
 | .neq => a != b
 | .lss => decide (a < b)
 | .leq => decide (a ≤ b)
 | .gtr => decide (a > b)
 | .geq => decide (a ≥ b)
 | _ => false
def cmpS (op : BinOp) (a b : ByteArray) : Bool :=
 match op with
 | .eql => a.toList == b.toList
 | .neq => !(a.toList == b.toList)
 | .lss => Op.bytesLess a.toList b.toList
 | .leq => Op.bytesLess a.toList b.toList || a.toList == b.toList
 | .gtr => !(Op.bytesLess a.toList b.toList || a.toList == b.toList)
 | .geq => !Op.bytesLess a.toList b.toList
 | _ => false
def cmpB (op : BinOp) (a b : Bool) : Bool := match op with | .eql => a == b | .neq => a != b | _ => false
/-! ### maps -/
def kidx (ks : List Value) (k : Value) : Option Nat := ks.findIdx? (keq k)
def mhasC (ks : List Value) (k : Value) : Bool := (kidx ks k).isSome
def mgetC (ks : List Value) (vs : List C) (k : Value) (z : C) : C := match kidx ks k with | some i => vs.getD i z | none => z
def GM.put (m : GM) (k : Value) (v : C) : GM where
 ks := m.ks ++ [k]
 vs := m.vs ++ [v]
 born := m.born ++ [m.clock]
 clock := m.clock + 1
 l1 := by simp [m.l1]
 l2 := by simp [m.l2]
 lt := fun i hi => by
  rcases List.mem_append.1 hi with h | h
  ·exact Nat.lt_succ_of_lt (m.lt i h)
  ·rw [List.mem_singleton.1 h]; exact Nat.lt_succ_self _
 nd := List.nodup_append.2 ⟨m.nd, by simp, fun a ha b hb => by rw [List.mem_singleton.1 hb]; exact Nat.ne_of_lt (m.lt a ha)⟩
def GM.vset (m : GM) (i : Nat) (v : C) : GM where
 ks := m.ks
 vs := m.vs.set i v
 born := m.born
 clock := m.clock
 l1 := by simp [m.l1]
 l2 := m.l2
 lt := m.lt
 nd := m.nd
def GM.cut (m : GM) (i : Nat) : GM where
 ks := m.ks.eraseIdx i
 vs := m.vs.eraseIdx i
 born := m.born.eraseIdx i
 clock := m.clock
 l1 := by simp [List.length_eraseIdx, m.l1]
 l2 := by simp [List.length_eraseIdx, m.l2]
 lt := fun k hk => m.lt k (List.mem_of_mem_eraseIdx hk)
 nd := m.nd.sublist (List.eraseIdx_sublist ..)
def GM.set (m : GM) (k : Value) (v : C) : GM := match kidx m.ks k with | some i => m.vset i v | none => m.put k v
def GM.ent (m : GM) (k : Value) (z : C) : GM := match kidx m.ks k with | some _ => m | none => m.put k z
def GM.stampOf (m : GM) (k : Value) : Int := match kidx m.ks k with | some i => (m.born.getD i 0 : Nat) | none => 0
def GM.bidx (m : GM) (n : Int) : Option Nat := m.born.findIdx? fun b : Nat => decide ((b : Int) = n)
def GM.stamp (m : GM) (n : Int) (v : C) : GM := match m.bidx n with | some i => m.vset i v | none => m
def GM.stamped (m : GM) (n : Int) : Prop := (m.bidx n).isSome = true
def GM.del (m : GM) (k : Value) : GM := match kidx m.ks k with | some i => m.cut i | none => m
def GM.new : GM := ⟨[], [], [], 0, rfl, rfl, fun _ h => (by cases h), List.nodup_nil⟩
def std (P : Program) (T : TT) : J where
 arith := arithI
 cmp := cmpI
 scmp := cmpS
 bcmp := cmpB
 bnot := not
 wrap := IntKind.wrap
 imin := fun x y => if y < x then y else x
 imax := fun x y => if y > x then y else x
 cat := fun a b => a ++ b
 ssize := ByteArray.size
 sat := satB
 sext := ByteArray.extract
 ofNat := fun n => (n : Int)
 toNat := Int.toNat
 add := (· + ·)
 sub := (· - ·)
 mul := (· * ·)
 cell := cellAt
 ext := extC
 app := (· ++ ·)
 set := setC
 rep := repC
 clen := List.length
 bytes := bytesC
 ofBytes := ofBytesC
 gi := gi
 gb := gb
 gs := gs
 gn := gn
 gc := gc
 ok := okK
 inb := fun i n => 0 ≤ i ∧ i < (n : Int)
 le := (· ≤ ·)
 lei := (· ≤ ·)
 pos := (0 < ·)
 ne0 := (· ≠ 0)
 eqb := (· = ·)
 isBytes := isBytesC
 vals := fun cs => ∀ c ∈ cs, ∃ v, c = .val v
 pc := fun f args ret upd => Enters P f ∧ PC P T f args ret upd
 mhas := mhasC
 mget := mgetC
 mlen := List.length
 mnew := GM.new
 mset := GM.set
 ment := GM.ent
 mborn := GM.stampOf
 mstamp := GM.stamp
 mstamped := GM.stamped
 mdel := GM.del
 pco := fun f e n cells gs ret n' cells' => Enters P f ∧ PCO P T f e n cells gs ret n' cells'
 pcn := fun f args row => Enters P f ∧ PCN P T f args row
 pcm := fun f kk m args m' => Enters P f ∧ PCM P T f kk m args m'
 pcl := fun f kk m m' => Enters P f ∧ PCL P T f kk m m'
 ieq := fun xs ys => decide (xs = ys)
 seq := fun t n => ∀ xs ys : List Int, xs.length = n → ys.length = n → ∀ w : World, (binOp .eql t (.agg (xs.map (Value.int .i64)).toArray) (.agg (ys.map (Value.int .i64)).toArray)).run P w = .ok (.bool (decide (xs = ys))) w ∧
  (binOp .neq t (.agg (xs.map (Value.int .i64)).toArray) (.agg (ys.map (Value.int .i64)).toArray)).run P w = .ok (.bool (!decide (xs = ys))) w ∧ ∀ (op : BinOp) (x y : Operand), (eqGuard op t x y (.agg (xs.map (Value.int .i64)).toArray) (.agg (ys.map (Value.int .i64)).toArray)).run P w = .ok () w
 meq := fun xs s ys u => decide (xs = ys ∧ s = u)
 mseq := fun t n => ∀ (xs : List Int) (s : ByteArray) (ys : List Int) (u : ByteArray), xs.length = n → ys.length = n → ∀ w : World, (binOp .eql t (.agg (xs.map (Value.int .i64) ++ [Value.string s]).toArray) (.agg (ys.map (Value.int .i64) ++ [Value.string u]).toArray)).run P w = .ok (.bool (decide (xs = ys ∧ s = u))) w ∧
  (binOp .neq t (.agg (xs.map (Value.int .i64) ++ [Value.string s]).toArray) (.agg (ys.map (Value.int .i64) ++ [Value.string u]).toArray)).run P w = .ok (.bool (!decide (xs = ys ∧ s = u))) w ∧ ∀ (op : BinOp) (x y : Operand), (eqGuard op t x y (.agg (xs.map (Value.int .i64) ++ [Value.string s]).toArray) (.agg (ys.map (Value.int .i64) ++ [Value.string u]).toArray)).run P w = .ok () w
variable (T : TT) (j : J)
def partsX (t : Nat) : Nat → List (Bool × List RC) → List (Bool × List X)
 | _, [] => []
 | o, (b, row) :: r => (b, row.zipIdx.map fun (rc, i) => rcX t (o + i) rc) :: partsX t (o + row.length) r
def retV (t : Nat) (ret : RV) : V :=
 if ret.tup then .tup (partsX t 0 ret.parts) else
 match partsX t 0 ret.parts with
 | [(b, xs)] => (mk b xs).getD .undef
 | _ => .undef
def optAll {α : Type} : List (Option α) → Option (List α)
 | [] => some []
 | none :: _ => none
 | some a :: r => match optAll r with | some l => some (a :: l) | none => none
def ptrOf : V → Option Nat
 | .one (.ptr t 0) => some t
 | _ => none
def capsOf : V → List Nat
 | .one (.fn _ caps) => caps
 | _ => []
def uniq : List Nat → List Nat → List Nat
 | _, [] => []
 | seen, t :: ts => if seen.contains t then uniq seen ts else t :: uniq (t :: seen) ts
def tsOf (args : List V) : List (Option Nat) := args.map ptrOf ++ (uniq (args.filterMap ptrOf) (args.flatMap capsOf)).map some
def placeIn : List (Option Nat) → Nat → Nat
 | [], _ => 0
 | some u :: ts, t => if u = t then 0 else placeIn ts t + 1
 | none :: ts, t => placeIn ts t + 1
def distinct : List (Option Nat) → Bool
 | [] => true
 | none :: ts => distinct ts
 | some t :: ts => !ts.contains (some t) && distinct ts
def rootX : X → Option Nat
 | .view t _ | .mv t _ | .sub t _ _ _ | .ptr t _ | .eptr t _ _ | .tv t _ _ | .tp t _ _ _ _ | .bfn _ t => some t
 | _ => none
def handed (ts : List (Option Nat)) (x : X) : Bool := match rootX x with | some t => ts.contains (some t) | none => false
def argOf (r : List Root) (ts : List (Option Nat)) : V → Option Arg
 | .one (.fn f []) => some (.fn f)
 | .one (.fn f caps) => some (.clo f (caps.map (placeIn ts)))
 | .one (.ptr t 0) => match rootOf r t with | .box row => if row.isEmpty then none else some (.root (.box row)) | _ => none
 | .one x => if handed ts x then some .any else match stab T j r x with | some c => some (.v false [c]) | none => some .any
 | .agg xs => if xs.any (handed ts) then none else match optAll (xs.map (stab T j r)) with | some cs => some (.v true cs) | none => none
 | _ => none
def virtOf (r : List Root) : Option Nat → Option Arg
 | some t => match rootOf r t with | .box row => if row.isEmpty then none else some (.virt (.box row)) | _ => none
 | none => none
def fitsR (r : List Root) : List (Option Nat) → List Root → Bool
 | [], [] => true
 | some t :: ts, .box row :: us => (match rootOf r t with | .box row' => row.length == row'.length | _ => false) && fitsR r ts us
 | none :: ts, .none :: us => fitsR r ts us
 | _, _ => false
def setRoots (r : List Root) : List (Option Nat) → List Root → List Root
 | some t :: ts, R :: us => setRoots (r.set t R) ts us
 | _ :: ts, _ :: us => setRoots r ts us
 | _, _ => r
def lostX (ts : List (Option Nat)) : X → Bool
 | .ptr _ _ => false
 | .bfn _ _ => false
 | x => handed ts x
def K.slicy : K → Bool
 | .sl | .raw => true
 | _ => false
def RC.slicy : RC → Bool
 | .st (.val _) => false
 | .dead => false
 | .own e _ _ => match T e with | some te => te.cells.any K.slicy | none => true
 | _ => true
def RC.plainObl : RC → Prop
 | .own _ _ cells => j.vals cells
 | _ => True
def callOp (st : St) (f : FuncId) (args : List V) (cr : RV × List Root) : Option ((Nat → V) × St × List Prop) :=
 let ts := tsOf args
 match optAll (args.map (argOf T j st.r ts)), optAll ((ts.drop args.length).map (virtOf st.r)) with
 | some as9, some vs =>
  let us := if cr.2.isEmpty then ts.map fun _ => Root.none else cr.2
  if distinct ts && fitsR st.r ts us && !ts.contains (some st.s.length) then
   let row := cr.1.parts.flatMap (·.2)
   let rows := row ++ us.flatMap Root.row
   if rows.any (RC.slicy T) then
    let st1 := ((args.flatMap cellsOfV).filter fun x => !handed ts x).foldl (freezeX T j) st
    some (fun d => retV d cr.1, { s := kill (lostX ts) st1.s, r := (setRoots st1.r ts us).set st.s.length (.loose row) }, [j.pc f (as9 ++ vs) cr.1 cr.2])
   else some (fun d => retV d cr.1, { s := kill (lostX ts) st.s, r := (setRoots st.r ts us).set st.s.length (.loose row) }, j.pc f (as9 ++ vs) cr.1 cr.2 :: rows.map (RC.plainObl j))
  else none
 | _, _ => none
def newCall (st : St) (f : FuncId) (args : List V) (row : List RC) : Option ((Nat → V) × St × List Prop) :=
 if args.all (fun x => (ptrOf x).isNone && (capsOf x).isEmpty) && !row.any RC.isMe then
  match optAll (args.map (argOf T j st.r [])) with
  | some as9 =>
   let st1 := (args.flatMap cellsOfV).foldl (freezeX T j) st
   some (fun d => .one (.ptr d 0), { s := kill (lostX []) st1.s, r := st1.r.set st.s.length (.box row) }, [j.pcn f as9 row])
  | none => none
 else none
def anyCall (st : St) (f : FuncId) (args : List V) (cr : RV × List Root) : Option ((Nat → V) × St × List Prop) :=
 match cr with
 | (⟨false, []⟩, [.box row]) => newCall T j st f args row
 | cr => callOp T j st f args cr
def fnOf : V → Option FuncId
 | .one (.fn f []) => some f
 | _ => none
def ownCall (st : St) (f : FuncId) (x : V) (rest : List V) (cr : RV × List Root) : Option ((Nat → V) × St × List Prop) :=
 match x, cr.2, optAll (rest.map fnOf) with
 | .one (.view t o), [.loose [.own e n' cs']], some gs =>
  match ownAt st.r t o with
  | some (e0, n, cells) =>
   if e0 = e ∧ t ≠ st.s.length then
    match cr.1.parts with
    | [] => some (fun _ => .undef, { st with r := setCellR st.r t o (.own e n cs') }, [j.pco f e n cells gs false n cs'])
    | _ => some (fun d => .one (.view d 0), { s := kill (ofCell t o) st.s, r := pushR (setCellR st.r t o .dead) st.s.length (.own e n' cs') }, [j.pco f e n cells gs true n' cs'])
   else none
  | none => none
 | _, _, _ => none
def appBase (st : St) (e : TypeId) (sz : Nat) : V → Option (Option (Nat × Nat) × Nat × List C)
 | .one (.c .nil) => some (none, 0, [])
 | .one (.view t o) =>
  match ownAt st.r t o with
  | some (e', n, cells) => if e = e' ∧ t ≠ st.s.length then some (some (t, o), n, cells) else none
  | none => none
 | .one (.sub t o 0 hi) =>
  match ownAt st.r t o with
  | some (e', _, cells) => if e = e' ∧ t ≠ st.s.length then some (some (t, o), hi, j.ext cells 0 (mulSz j hi sz)) else none
  | none => none
 | _ => none
def appNews (st : St) (e : TypeId) (sz : Nat) (b : Option (Nat × Nat)) : V → Option (Nat × List C × List Prop)
 | .one (.c .nil) => some (0, [], [])
 | .one (.c (.sl m cs)) => some (m, cs, [j.le (mulSz j m sz) (j.clen cs), j.le (j.clen cs) (mulSz j m sz)])
 | .one (.view t o) =>
  match ownAt st.r t o with
  | some (e', m, cs) => if e = e' ∧ b ≠ some (t, o) then some (m, cs, []) else none
  | none => none
 | .one (.sub t o lo hi) =>
  match ownAt st.r t o with
  | some (e', _, cs) => if e = e' ∧ b ≠ some (t, o) then some (if lo = 0 then hi else j.sub hi lo, j.ext cs (mulSz j lo sz) (mulSz j hi sz), []) else none
  | none => none
 | _ => none
def appOp (st : St) (t : TypeId) (base news : V) : Option ((Nat → V) × St × List Prop) :=
  match T t with
  | some ti =>
    match ti.desc with
    | .slice e =>
      match T e with
      | some te =>
        match appBase j st e te.size base with
        | some (b, n, cells) =>
          match appNews j st e te.size b news with
          | some (m, cs, obl) =>
            if te.size = 0 ∨ te.bytes = 0 then none else
            let st1 := match b with
              | some (t1, o1) => { s := kill (ofCell t1 o1) st.s, r := setCellR st.r t1 o1 .dead : St }
              | none => st
            let nm := plus j n m
            some (fun d => .one (.view d 0), { st1 with r := pushR st1.r st.s.length (.own e nm (match b with | none => cs | some _ => j.app cells cs)) },
              j.le (j.mul nm te.bytes) 140737488355328 :: obl)
          | none => none
        | none => none
      | none => none
    | _ => none
  | none => none
def copyDst (st : St) (e : TypeId) : V → Option (Nat × Nat × Nat × Nat × Nat × List C)
 | .one (.view t o) => match ownAt st.r t o with | some (e', n, cells) => if e' = e then some (t, o, 0, n, n, cells) else none | none => none
 | .one (.sub t o lo hi) => match ownAt st.r t o with | some (e', n, cells) => if e' = e then some (t, o, lo, if lo = 0 then hi else j.sub hi lo, n, cells) else none | none => none
 | _ => none
def copyOp (st : St) (t : TypeId) (dst src : V) : Option ((Nat → V) × St × List Prop) :=
 match elemOf T t with
 | some (e, te) =>
  if te.size ≠ 1 then none else
  match copyDst j st e dst with
  | some (t1, o1, lo, len, n, cells) =>
   match appNews j st e 1 none src with
   | some (m, cs, obl) => some (fun _ => .one (.c (.val (.int .i64 (j.imin (j.ofNat len) (j.ofNat m))))), { st with r := setCellR st.r t1 o1 (.own e n (j.set cells lo (j.ext cs 0 (j.toNat (j.imin (j.ofNat len) (j.ofNat m)))))) }, obl)
   | none => none
  | none => none
 | none => none
def appZ (st : St) (t u : TypeId) (base num' : V) : Option ((Nat → V) × St × List Prop) :=
 match descOf T u, base, num num', elemOf T t with
 | .int _, .one (.c .nil), some n, some (e, te) =>
  match optAll ((cellsOfV (constV te.zero)).map (stab T j st.r)) with
  | some zs =>
   if zs.length ≠ te.size ∨ te.size = 0 ∨ te.bytes = 0 then none else
   some (fun d => .one (.view d 0), { st with r := pushR st.r st.s.length (.own e (j.toNat n) (j.rep (j.toNat n) zs)) }, [j.lei 1 n, j.le (j.mul (j.toNat n) te.bytes) 140737488355328])
  | none => none
 | _, _, _, _ => none
def ofCells (t o n : Nat) : X → Bool
 | .view u p | .mv u p | .sub u p _ _ | .eptr u p _ | .tv u p _ | .tp u p _ _ _ => u == t && decide (o ≤ p) && decide (p < o + n)
 | _ => false
def clashAny : List X → Bool
 | [] => false
 | x :: xs => clash x xs || clashAny xs
def settle (st : St) (xs : List X) : Option (St × List X) :=
 if clashAny xs then match optAll (xs.map (stab T j st.r)) with | some cs => some (xs.foldl (freezeX T j) st, cs.map cX) | none => none else some (st, xs)
/-! ### maps -/
def setMap (r : List Root) (t o : Nat) (kk : KK) (m : GM) : List Root := setCellR r t o (.map kk m)
def mapOp (st : St) (o : Oper) : Option ((Nat → V) × St × List Prop) :=
 match o.op with
 | .makeMap t none =>
  match mapTy T t with
  | some (kk, _) => some (fun d => .one (.mv d 0), { st with r := pushR st.r st.s.length (.map kk j.mnew) }, [])
  | none => none
 | .mapUpdate t m k v =>
  match mapTy T t, ev st.s m, keyOf (ev st.s k), ev st.s v with
  | some (kk, _), .one (.mv t' o'), some k, .one x =>
   match stab T j st.r x with
   | some c =>
    let st1 := freezeX T j st x
    match mapAt st1.r t' o' with
    | some (kk', m) => if kk = kk' ∧ kk.ok k = true ∧ st1.r.length = st.r.length then some (fun _ => .undef, { st1 with r := setMap st1.r t' o' kk (j.mset m k c) }, []) else none
    | none => none
   | none => none
  | _, _, _, _ => none
 | .mapEntry t m k =>
  match mapTy T t, ev st.s m, keyOf (ev st.s k) with
  | some (kk, te), .one (.mv t' o'), some k =>
   match mapAt st.r t' o', zeroC te, te.cells with
   | some (kk', m), some z, [kd] =>
    if kk = kk' ∧ kk.ok k = true then
     some (fun _ => .tup [(false, [.c (shape j kd (j.mget m.ks m.vs k z))]), (false, [.c (.val (.int .i64 (j.mborn (j.ment m k z) k)))])], { st with r := setMap st.r t' o' kk (j.ment m k z) }, [j.ok kd (j.mget m.ks m.vs k z)])
    else none
   | _, _, _ => none
  | _, _, _ => none
 | .entryStore t m n v =>
  match mapTy T t, ev st.s m, ev st.s n, ev st.s v with
  | some (kk, _), .one (.mv t' o'), .one (.c (.val (.int .i64 n))), .one (.c (.val v)) =>
   match mapAt st.r t' o' with
   | some (kk', m) => if kk = kk' then some (fun _ => .undef, { st with r := setMap st.r t' o' kk (j.mstamp m n (.val v)) }, [j.mstamped m n]) else none
   | none => none
  | _, _, _, _ => none
 | _ => none
/-! ### trees -/
mutual
def Sh.same : Sh → Sh → Bool
 | .st, .st => true
 | .sl e ks, .sl e' ks' => e == e' && sameL ks ks'
 | _, _ => false
def sameL : List Sh → List Sh → Bool
 | [], [] => true
 | a :: as9, b :: bs => a.same b && sameL as9 bs
 | _, _ => false
end
def Sh.isSt : Sh → Bool
 | .st => true
 | _ => false
def allSt (ks : List Sh) : Bool := ks.all Sh.isSt
def toT (sh : Sh) : RC → Option C
 | .st c => match sh, c with | .st, c => some c | .sl _ _, .nil => some .nil | _, _ => none
 | .own e n cells => match sh with | .sl e' ks => if e = e' ∧ allSt ks = true then some (.sl n cells) else none | .st => none
 | .tree sh' c none => if sh.same sh' then some c else none
 | _ => none
def rowT (ks : List Sh) (sz off : Nat) (row : List RC) : Option (List C) := optAll (row.zipIdx.map fun (rc, i) => toT (ks.getD ((off + i) % sz) .st) rc)
def ofKid (t o m : Nat) : X → Bool
 | .tv u p w | .tp u p w _ _ => u == t && p == o && decide (m ≤ w.length)
 | _ => false
def dropN (st : St) : St := { s := kill (ofRoot st.s.length) st.s, r := st.r.set st.s.length .none }
def fillObl (p : Path) (k off n : Nat) : Path → Option (List Prop)
 | [] => none
 | [(a, b)] => match p with | [] => if off ≤ b ∧ b < off + n then some [j.le a (plus j k (b - off)), j.le (plus j k (b - off)) a] else none | _ => none
 | (a, _) :: q => match p with | (c, _) :: p' => (match fillObl p' k off n q with | some l => some (j.le a c :: j.le c a :: l) | none => none) | [] => none
def treeBase (st : St) (t o : Nat) (p : Path) : Option (Sh × C × TypeId × List Sh × Nat × List C × St) :=
  match treeAt st.r t o with
  | some (sh, c, none) =>
    if t = st.s.length then none else
    match sh.to p with
    | .sl e ks =>
      some (sh, c, e, ks, lenJ j (atJ j c p), clsJ j (atJ j c p), match p with
        | [] => { s := kill (ofCell t o) st.s, r := setCellR st.r t o .dead }
        | _ => { s := kill (ofKid t o p.length) st.s, r := setCellR st.r t o (.tree sh (updJ j (fun _ => holeC) c p) (some p)) })
    | .st => none
  | _ => none
def treeApp (st : St) (t : TypeId) (base news : V) : Option ((Nat → V) × St × List Prop) :=
 match elemOf T t with
 | some (e, te) =>
  if te.size = 0 ∨ te.bytes = 0 then none else
  if te.kids.isEmpty then
   match base with
   | .one (.tv t1 o1 (x :: p1)) =>
    match treeBase j st t1 o1 (x :: p1), appNews j st e te.size none news with
    | some (_, _, e1, ks1, n, cells, st1), some (m, cs, obl) =>
     if e = e1 ∧ allSt ks1 = true then
      some (fun d => .one (.view d 0), { st1 with r := pushR st1.r st.s.length (.own e (plus j n m) (j.app cells cs)) }, j.le (j.mul (plus j n m) te.bytes) 140737488355328 :: obl)
     else none
    | _, _ => none
   | _ => none
  else
   match news with
   | .one (.tv t2 o2 []) =>
    match treeAt st.r t2 o2 with
    | some (.sl e2 ks2, .sl m cs, none) =>
     if e2 = e ∧ sameL ks2 te.kids = true ∧ t2 ≠ st.s.length then
      match base with
      | .one (.c .nil) => some (fun d => .one (.tv d 0 []), { s := kill (ofCell t2 o2) st.s, r := pushR (setCellR st.r t2 o2 .dead) st.s.length (.tree (.sl e te.kids) (.sl m cs) none) }, [j.le (j.mul m te.bytes) 140737488355328])
      | .one (.tv t1 o1 p1) =>
       if t1 = t2 ∧ o1 = o2 then none else
       match treeBase j st t1 o1 p1 with
       | some (_, _, e1, ks1, n, cells, st1) =>
        if e1 = e ∧ sameL ks1 te.kids = true then
         some (fun d => .one (.tv d 0 []), { s := kill (ofCell t2 o2) st1.s, r := pushR (setCellR st1.r t2 o2 .dead) st.s.length (.tree (.sl e te.kids) (.sl (plus j n m) (j.app cells cs)) none) }, [j.le (j.mul (plus j n m) te.bytes) 140737488355328])
        else none
       | none => none
      | _ => none
     else none
    | _ => none
   | _ => none
 | none => none
def treeOp (st : St) (o : Oper) : Option ((Nat → V) × St × List Prop) :=
  match o.op with
  | .buildSlice t len parts =>
    match elemOf T t with
    | some (e, te) =>
      if te.kids.isEmpty then none else
      let us := parts.toList.map fun p => cellsOfV (ev st.s p.2)
      if parts.toList.map (·.1) ≠ List.range len ∨ !us.all (fun u => u.length == te.size) ∨ len * te.size > 2 ^ 24 ∨ te.size = 0 then none else
      match pushAll T j st us.flatten with
      | some st1 =>
        match rowT te.kids te.size 0 (rootOf st1.r st.s.length).row with
        | some cs => some (fun d => .one (.tv d 0 []), { dropN st1 with r := pushR (dropN st1).r st.s.length (.tree (.sl e te.kids) (.sl len cs) none) }, [])
        | none => none
      | none => none
    | none => none
  | .makeSlice t l c =>
    match elemOf T t, num (ev st.s l), num (ev st.s c) with
    | some (e, te), some l, some c =>
      if te.kids.isEmpty then none else
      match optAll ((cellsOfV (constV te.zero)).map (stab T j st.r)) with
      | some zs =>
        if zs.length ≠ te.size ∨ te.size = 0 ∨ te.bytes = 0 then none else
        match rowT te.kids te.size 0 (zs.map RC.st) with
        | some zs' =>
          some (fun d => .one (.tv d 0 []), { st with r := pushR st.r st.s.length (.tree (.sl e te.kids) (.sl (j.toNat l) (j.rep (j.toNat l) zs')) none) },
            [j.lei 0 l, j.lei l c, j.le (j.mul (j.toNat c) te.bytes) 140737488355328])
        | none => none
      | none => none
    | _, _, _ => none
  | .store t a x =>
    match T t, ev st.s a with
    | some ti, .one (.tp t' o p k off) =>
      let xs := cellsOfV (ev st.s x)
      if xs.length ≠ ti.size ∨ ti.size = 0 ∨ t' = st.s.length then none else
      match pushAll T j st xs with
      | some st1 =>
        match treeAt st1.r t' o, nodeAt j st1.r t' o p with
        | some (sh, c, h), some (e, ks, _, cells) =>
          if szOf T e < off + ti.size then none else
          match rowT ks (szOf T e) off (rootOf st1.r st.s.length).row with
          | some cs =>
            match (match h with | none => some [] | some q => fillObl j p k off ti.size q) with
            | some obl =>
              some (fun _ => .undef, { s := kill (ofKid t' o (p.length + 1)) (dropN st1).s, r := setCellR (dropN st1).r t' o (.tree sh (updJ j (fun nd => .sl (lenJ j nd) (j.set (clsJ j nd) k cs)) c p) none) },
                j.le (plus j k ti.size) (j.clen cells) :: obl)
            | none => none
          | none => none
        | _, _ => none
      | none => none
    | _, _ => none
  | .call { callee := .builtin .append, args, argTypes } =>
    match args.toList, argTypes.toList with
    | [x, y], [t, u] => if t = u then treeApp T j st t (ev st.s x) (ev st.s y) else none
    | _, _ => none
  | _ => none
def runOp0 (st : St) (o : Oper) (cr : Option (RV × List Root)) : Option ((Nat → V) × St × List Prop) :=
  match o.op with
  | .alloc e =>
    match T e with
    | some ti =>
      match cellsOfV (constV ti.zero) with
      | [] => none
      | xs => match pushAll T j st xs with | some st1 => if (rootOf st1.r st.s.length).row.any RC.isMe then none else some (fun d => .one (.ptr d 0), toBox st1, []) | none => none
    | none => none
  | .box _ x =>
    match cellsOfV (ev st.s x) with
    | [] => none
    | xs => match pushAll T j st xs with | some st1 => if (rootOf st1.r st.s.length).row.any RC.isMe then none else some (fun d => .one (.ptr d 0), toBox st1, []) | none => none
  | .buildSlice t len parts =>
    match T t with
    | some ti =>
      match ti.desc with
      | .slice e =>
        match T e with
        | some te =>
          let us := parts.toList.map fun p => cellsOfV (ev st.s p.2)
          if parts.toList.map (·.1) ≠ List.range len ∨ !us.all (fun u => u.length == te.size) ∨ len * te.size > 2 ^ 24 ∨ te.size = 0 then none else
          match optAll (us.flatten.map (stab T j st.r)) with
          | some cs =>
            let st1 := us.flatten.foldl (freezeX T j) st
            some (fun d => .one (.view d 0), { st1 with r := pushR st1.r st.s.length (.own e len cs) }, [])
          | none => none
        | none => none
      | _ => none
    | none => none
  | .makeSlice t l c =>
    match T t, num (ev st.s l), num (ev st.s c) with
    | some ti, some l, some c =>
      match ti.desc with
      | .slice e =>
        match T e with
        | some te =>
          match optAll ((cellsOfV (constV te.zero)).map (stab T j st.r)) with
          | some zs =>
            if zs.length ≠ te.size ∨ te.size = 0 ∨ te.bytes = 0 then none else
            some (fun d => .one (.view d 0), { st with r := pushR st.r st.s.length (.own e (j.toNat l) (j.rep (j.toNat l) zs)) },
              [j.lei 0 l, j.lei l c, j.le (j.mul (j.toNat c) te.bytes) 140737488355328])
          | none => none
        | none => none
      | _ => none
    | _, _, _ => none
  | .store t a x =>
    match T t with
    | some ti =>
      let xs := cellsOfV (ev st.s x)
      if xs.length ≠ ti.size ∨ ti.size = 0 then none else
      match ev st.s a with
      | .one (.ptr _ _) =>
        match settle T j st xs with
        | some (st0, xs0) =>
          match ev st0.s a with
          | .one (.ptr t' o) =>
            match pushAll T j st0 xs0 with
            | some st1 =>
              match rootOf st1.r t' with
              | .box row =>
                if o + ti.size ≤ row.length ∧ t' ≠ st0.s.length ∧ (rootOf st1.r st0.s.length).row.any RC.isMe = false then
                  some (fun _ => .undef, { s := kill (fun x => ofRoot st0.s.length x || ofCells t' o ti.size x) st1.s, r := (st1.r.set t' (.box (row.take o ++ (rootOf st1.r st0.s.length).row ++ row.drop (o + ti.size)))).set st0.s.length .none }, [])
                else none
              | _ => none
            | none => none
          | _ => none
        | none => none
      | .one (.eptr t' o k) =>
        match optAll (xs.map (stab T j st.r)) with
        | some cs =>
          let st1 := xs.foldl (freezeX T j) st
          match ownAt st1.r t' o with
          | some (e, n, cells) => some (fun _ => .undef, { st1 with r := setCellR st1.r t' o (.own e n (j.set cells k cs)) }, [j.le (plus j k ti.size) (j.clen cells)])
          | none => none
        | none => none
      | _ => none
    | none => none
  | .convert src dst x =>
    match T dst, ev st.s x, descOf T src with
    | some td, .one (.c (.val (.string s))), .string =>
      match td.desc with
      | .slice e => match descOf T e with | .int .u8 => some (fun _ => .one (.c (.sl (j.ssize s) (j.ofBytes s))), st, []) | _ => none
      | _ => none
    | _, _, _ => none
  | .call { callee := .builtin .append, args, argTypes } =>
    match args.toList, argTypes.toList with
    | [x, y], [t, u] => if t = u then appOp T j st t (ev st.s x) (ev st.s y) else appZ T j st t u (ev st.s x) (ev st.s y)
    | _, _ => none
  | .call { callee := .builtin .copy, args, argTypes } =>
    match args.toList, argTypes.toList with
    | [x, y], [t, u] => if t = u then copyOp T j st t (ev st.s x) (ev st.s y) else none
    | _, _ => none
  | .call { callee := .value f, args, .. } =>
    match ev st.s f, cr with
    | .one (.fn f caps), some cr =>
      match args.toList, caps with
      | x :: rest, [] =>
        match ownCall j st f (ev st.s x) (rest.map (ev st.s)) cr with
        | some r => some r
        | none => anyCall T j st f (args.toList.map (ev st.s) ++ caps.map fun t => .one (.ptr t 0)) cr
      | _, _ => anyCall T j st f (args.toList.map (ev st.s) ++ caps.map fun t => .one (.ptr t 0)) cr
    | _, _ => none
  | _ => mapOp T j st o
def meOp (st : St) (o : Oper) (cr : Option (RV × List Root)) : Option ((Nat → V) × St × List Prop) :=
 match o.op with
 | .store t a x =>
  match T t, ev st.s a, ev st.s x with
  | some ti, .one (.ptr t' o), .one (.bfn g u) =>
   match rootOf st.r t' with
   | .box row =>
    if u = t' ∧ ti.size = 1 ∧ o + 1 ≤ row.length ∧ t' ≠ st.s.length then
     some (fun _ => .undef, { s := kill (fun x => ofRoot st.s.length x || ofCells t' o 1 x) st.s, r := (st.r.set t' (.box (row.take o ++ [.me (some g)] ++ row.drop (o + 1)))).set st.s.length .none }, [])
    else none
   | _ => none
  | _, _, _ => none
 | .call { callee := .value f, args, .. } =>
  match ev st.s f, cr with
  | .one (.bfn g t), some cr => anyCall T j st g (.one (.ptr t 0) :: args.toList.map (ev st.s)) cr
  | _, _ => none
 | _ => none
def runOp (st : St) (o : Oper) (cr : Option (RV × List Root)) : Option ((Nat → V) × St × List Prop) :=
 match treeOp T j st o with
 | some r => some r
 | none =>
  match meOp T j st o cr with
  | some r => some r
  | none => runOp0 T j st o cr
def put (st : St) (d : Option Nat) (v : V) : St :=
 match d with
 | some d => { st with s := st.s.set d v }
 | none => st
def fin (st : St) (d : Option Nat) (vf : Nat → V) : St :=
 match d with
 | some d => put (name st d) (some d) (vf d)
 | none => { s := kill (ofRoot st.s.length) st.s, r := st.r.set st.s.length .none }
structure Say where
 g : List (Nat × Bool)
 p : List (Nat × Bool)
 c : List (Nat × (RV × List Root))
def look {α : Type} : List (Nat × α) → Nat → Option α
 | [], _ => none
 | (k, a) :: r, i => if k = i then some a else look r i
def dstOk (st : St) : Option Nat → Bool
 | some d => decide (d < st.s.length)
 | none => true
def guardOf (ops : List Oper) (d : Nat) : List (Nat × Bool) → Option Bool
 | [] => none
 | (k, g) :: l => if (match ops[k]? with | some o => (match o.dst with | some e => e == d | none => false) | none => false) then some g else guardOf ops d l
def pickOf (say : Say) (ops : List Oper) (o : Oper) (i : Nat) : Option Bool :=
 match look say.p i with
 | some g => some g
 | none => match o.op with | .pick (.tmp d) _ _ => guardOf ops d say.g | _ => none
def step1 (say : Say) (ops : List Oper) (st : St) (o : Oper) (i : Nat) : Option (St × List Prop) :=
 match pureOp T j st (pickOf say ops o i) o with
 | some (v, obl) => some (put st o.dst v, obl)
 | none =>
  match runOp T j st o (look say.c i) with
  | some (vf, st1, obl) => if dstOk st o.dst then some (fin st1 o.dst vf, obl) else none
  | none => none
def wants (say : Say) (ops : List Oper) (st : St) (o : Oper) (i : Nat) : Option (Bool × List Prop) :=
 match o.guard with
 | none => some (true, [])
 | some (k, want) =>
  match (ops[k]?).bind (·.dst) with
  | some d =>
   match st.s.getD d .undef, look say.g k with
   | .one (.c (.val (.bool b))), some g => some (g == want, [j.eqb b g])
   | .nop, _ => some (false, [])
   | _, _ => none
  | none => none
def stepW (say : Say) (ops : List Oper) (st : St) (o : Oper) (i : Nat) : Option (St × List Prop) :=
 match wants j say ops st o i with
 | some (true, obl) => match step1 T j say ops st o i with | some (st', obl') => some (st', obl ++ obl') | none => none
 | some (false, obl) => some (put st o.dst .nop, obl)
 | none => none
def runs (say : Say) (ops : List Oper) (st : St) : List Oper → Nat → Option (St × List Prop)
 | [], _ => some (st, [])
 | o :: rest, i =>
  match stepW T j say ops st o i with
  | some (st1, obl) => match runs say ops st1 rest (i + 1) with | some (st2, obl2) => some (st2, obl ++ obl2) | none => none
  | none => none
end Go.Proofs.Ytcpcghnpoekhpaa.A
/- The ghost machine, part 4: what moves without the world keeps the meaning. -/
set_option linter.unusedSimpArgs false
set_option linter.unusedVariables false
set_option maxRecDepth 100000
set_option maxHeartbeats 4000000
namespace Go.Proofs.Ytcpcghnpoekhpaa.A
open Go
variable {T : TT} {w w0 : World} {S S0 : Nat → Prop} {F : Fr} {r : List Root} {bx : Nat → Nat} {ph : Nat → Nat → Pv}
theorem getD_set {α : Type} (l : List α) (i k : Nat) (a d : α) : (l.set i a).getD k d = if i = k ∧ i < l.length then a else l.getD k d := by
 simp only [List.getD_eq_getElem?_getD, List.getElem?_set]
 by_cases h : i = k
 ·subst h
  by_cases h2 : i < l.length
  ·simp [h2]
  ·simp [h2]
 ·simp [h]
theorem XRep.congr {r' : List Root} {bx' : Nat → Nat} {ph' : Nat → Nat → Pv} {v : Value} {x : X} (h : XRep T w S r bx ph v x)
  (hv : ∀ t o rc, (ofCell t o x = true) → rc.owner = true → (r.getD t .none).row[o]? = some rc → (r'.getD t .none).row[o]? = some rc ∧ ph' t o = ph t o)
  (hp : ∀ t o, x = .ptr t o → ∀ row, r.getD t .none = .box row → o < row.length → ∃ row', r'.getD t .none = .box row' ∧ o < row'.length ∧ bx' t = bx t)
  (hf : ∀ f caps, x = .fn f caps ∨ (∃ t, x = .bfn f t ∧ caps = [t]) → ∀ t ∈ caps, ∀ row, r.getD t .none = .box row → ∃ row', r'.getD t .none = .box row' ∧ row'.length = row.length ∧ bx' t = bx t) :
  XRep T w S r' bx' ph' v x := by
 cases x with
 | c c => exact h
 | view t o =>
  obtain ⟨e, n, cells, h1, h2⟩ := h
  obtain ⟨a, b⟩ := hv t o _ (by simp [ofCell]) rfl h1
  exact ⟨e, n, cells, a, h2.trans (congrArg Pv.v b.symm)⟩
 | mv t o =>
  obtain ⟨kk, m, h1, h2⟩ := h
  obtain ⟨a, b⟩ := hv t o _ (by simp [ofCell]) rfl h1
  exact ⟨kk, m, a, h2.trans (congrArg Pv.v b.symm)⟩
 | sub t o lo hi =>
  obtain ⟨e, n, cells, aa, cap, a', h1, h2, h3⟩ := h
  obtain ⟨a, b⟩ := hv t o _ (by simp [ofCell]) rfl h1
  exact ⟨e, n, cells, aa, cap, a', a, (congrArg Pv.v b).trans h2, h3⟩
 | ptr t o =>
  obtain ⟨row, h1, h2, h3⟩ := h
  obtain ⟨row', a, b, c⟩ := hp t o rfl row h1 h2
  exact ⟨row', a, b, by rw [c]; exact h3⟩
 | eptr t o k =>
  obtain ⟨e, n, cells, g, cap, h1, h2, h3⟩ := h
  obtain ⟨a, b⟩ := hv t o _ (by simp [ofCell]) rfl h1
  exact ⟨e, n, cells, g, cap, a, (congrArg Pv.v b).trans h2, h3⟩
 | tv t o p =>
  obtain ⟨sh, c, hh, q, h1, h2⟩ := h
  obtain ⟨a, b⟩ := hv t o _ (by simp [ofCell]) rfl h1
  exact ⟨sh, c, hh, q, a, by rw [b]; exact h2⟩
 | tp t o p k off =>
  obtain ⟨sh, c, hh, q, e, ks, g, n, cap, h1, h2⟩ := h
  obtain ⟨a, b⟩ := hv t o _ (by simp [ofCell]) rfl h1
  exact ⟨sh, c, hh, q, e, ks, g, n, cap, a, by rw [b]; exact h2⟩
 | mem cells off => exact h
 | fn f caps =>
  obtain ⟨h1, h2⟩ := h
  refine ⟨?_, fun t ht => ?_⟩
  ·rw [h1]; congr 2
   apply List.map_congr_left
   intro t ht
   obtain ⟨row, a, b⟩ := h2 t ht
   obtain ⟨_, _, _, c⟩ := hf f caps (.inl rfl) t ht row a
   rw [c]
  ·obtain ⟨row, a, b⟩ := h2 t ht
   obtain ⟨row', a', b', _⟩ := hf f caps (.inl rfl) t ht row a
   exact ⟨row', a', by omega⟩
 | bfn f t =>
  obtain ⟨⟨row, a, b⟩, h2⟩ := h
  obtain ⟨row', a', b', c⟩ := hf f [t] (.inr ⟨t, rfl, rfl⟩) t (List.mem_singleton.2 rfl) row a
  exact ⟨⟨row', a', by omega⟩, by rw [c]; exact h2⟩
 | undef => trivial
theorem ofRoot_caps {x : X} {f : FuncId} {caps : List Nat} {t : Nat} (he : x = .fn f caps ∨ ∃ u, x = .bfn f u ∧ caps = [u]) (ht : t ∈ caps) : ofRoot t x = true := by
 rcases he with rfl | ⟨u, rfl, rfl⟩
 ·simp [ofRoot, ht]
 ·rw [List.mem_singleton.1 ht]; simp [ofRoot]
theorem XRep.frame {w' : World} {S' : Nat → Prop} {v : Value} {x : X} (h : XRep T w S r bx ph v x) (hb : ∀ b, S b → w'.heap[b]? = w.heap[b]?) (hS : ∀ b, S b → S' b) : XRep T w' S' r bx ph v x := by
 cases x with
 | c c => exact CRep.frame h hb hS
 | mem cells off =>
  obtain ⟨b, base, vs, h1, h2, h3, h4⟩ := h
  exact ⟨b, base, vs, h1, hS _ h2, fun k hk => (World.cell?_of_block (hb _ h2)).trans (h3 k hk), fun k hk => (h4 k hk).frame hb hS⟩
 | _ => exact h
theorem VRep.map {w' : World} {S' : Nat → Prop} {r' : List Root} {bx' : Nat → Nat} {ph' : Nat → Nat → Pv} (f : X → X)
  (hf : ∀ v x, XRep T w S r bx ph v x → XRep T w' S' r' bx' ph' v (f x)) {v : Value} {V : V} (h : VRep T w S r bx ph v V) : VRep T w' S' r' bx' ph' v (mapV f V) := by
 have hxs : ∀ cs xs, XsRep T w S r bx ph cs xs → XsRep T w' S' r' bx' ph' cs (xs.map f) := fun cs xs hx =>
  ⟨by rw [List.length_map]; exact hx.1, fun k hk hk2 => by rw [List.getElem_map]; exact hf _ _ (hx.2 k (by simpa using hk) hk2)⟩
 cases V with
 | one x => exact hf _ _ h
 | agg xs =>
  obtain ⟨cs, h1, h2⟩ := h
  exact ⟨cs, h1, hxs _ _ h2⟩
 | tup vs =>
  obtain ⟨us, h1, h2, h3⟩ := h
  refine ⟨us, h1, by simp [h2], fun k hk hk2 => ?_⟩
  have hk' : k < vs.length := by simpa using hk
  have := h3 k hk' hk2
  rw [List.getElem_map]
  unfold PartRep at *
  dsimp only
  split
  ·rename_i hb
   rw [if_pos hb] at this
   obtain ⟨cs, a, b⟩ := this
   exact ⟨cs, a, hxs _ _ b⟩
  ·rename_i hb
   rw [if_neg hb] at this
   obtain ⟨x, a, b⟩ := this
   exact ⟨f x, by rw [a]; rfl, hf _ _ b⟩
 | undef => trivial
 | nop => exact h
theorem mapV_id (V : V) : mapV (fun x => x) V = V := by
 cases V <;> simp [mapV]
theorem VRep.mono {w' : World} {S' : Nat → Prop} {r' : List Root} {bx' : Nat → Nat} {ph' : Nat → Nat → Pv}
  (hf : ∀ v x, XRep T w S r bx ph v x → XRep T w' S' r' bx' ph' v x) {v : Value} {V : V} (h : VRep T w S r bx ph v V) : VRep T w' S' r' bx' ph' v V := by
 have := VRep.map (fun x => x) hf h
 rwa [mapV_id] at this
theorem slots_map {a : Act} {s : List V} {w' : World} {S' : Nat → Prop} {r' : List Root} {bx' : Nat → Nat} {ph' : Nat → Nat → Pv} (f : X → X)
  (hf : ∀ v x, XRep T w S r bx ph v x → XRep T w' S' r' bx' ph' v (f x))
  (h : ∀ i, i < s.length → VRep T w S r bx ph (a.tmps.getD i undef) (s.getD i .undef)) :
  ∀ i, i < (s.map (mapV f)).length → VRep T w' S' r' bx' ph' (a.tmps.getD i undef) ((s.map (mapV f)).getD i .undef) := by
 intro i hi
 have hi' : i < s.length := by simpa using hi
 have := VRep.map f hf (h i hi')
 simp only [List.getD_eq_getElem?_getD, List.getElem?_map] at *
 rw [List.getElem?_eq_getElem hi'] at this ⊢
 exact this
theorem mem_blksL {b : Nat} {ks : List Pv} : b ∈ blksL ks ↔ ∃ k, ∃ h : k < ks.length, b ∈ ks[k].blks := by
 induction ks with
 | nil => simp [blksL]
 | cons q ks ih =>
  rw [blksL, List.mem_append, ih]
  constructor
  ·rintro (h | ⟨k, hk, h⟩)
   ·exact ⟨0, by simp, h⟩
   ·exact ⟨k + 1, by simpa using hk, h⟩
  ·rintro ⟨k, hk, h⟩
   cases k with
   | zero => exact .inl h
   | succ k => exact .inr ⟨k, by simpa using hk, h⟩
theorem mem_blks {b : Nat} {v : Value} {g : Option Nat} {ks : List Pv} : b ∈ (Pv.mk v g ks).blks ↔ g = some b ∨ ∃ k, ∃ h : k < ks.length, b ∈ ks[k].blks := by
 rw [Pv.blks, List.mem_append, mem_blksL]
 cases g <;> simp [eq_comm]
theorem ownsRow_frame {w' : World} {b : Nat} {e : TypeId} {sz n : Nat} {v : Value} {xs : List Value} (h : w.ownsRow b e sz v n xs) (ho : ∀ g, v.ownBlock = some g → w'.heap[g]? = w.heap[g]?) : w'.ownsRow b e sz v n xs := by
 refine ⟨h.1, ?_⟩
 rcases h.2 with h | ⟨g, cap, cur, rfl, hB, hheap, hr⟩
 ·exact .inl h
 ·exact .inr ⟨g, cap, cur, rfl, hB, (ho g rfl).trans hheap, hr⟩
theorem CRepT.frame {w' : World} {S' : Nat → Prop} {hp : Option (List Nat)} {sh : Sh} {v : Value} {pv : Pv} {c : C} (h : CRepT T w S hp sh v pv c) (hb : ∀ b, S b → w'.heap[b]? = w.heap[b]?) (hS : ∀ b, S b → S' b)
  (ho : ∀ b, b ∈ pv.blks → w'.heap[b]? = w.heap[b]?) : CRepT T w' S' hp sh v pv c := by
 induction h with
 | st h => exact .st (h.frame hb hS)
 | nil h => exact .nil h
 | hole => exact .hole
 | node h1 h2 h3 h4 h5 _ ih =>
  refine .node h1 h2 (ownsRow_frame h3 fun g hg => ho g (mem_blks.2 (.inl (by simpa [Value.ownBlock] using hg)))) h4 h5 fun k k1 k2 k3 => ih k k1 k2 k3 fun b hb' => ho b (mem_blks.2 (.inr ⟨k, k2, hb'⟩))
theorem RCRep.frame {w' : World} {S' : Nat → Prop} {v : Pv} {rc : RC} (h : RCRep T w S v rc) (hb : ∀ b, S b → w'.heap[b]? = w.heap[b]?) (hS : ∀ b, S b → S' b)
  (ho : ∀ b, rc.blk v b → w'.heap[b]? = w.heap[b]?) : RCRep T w' S' v rc := by
 cases rc with
 | st c => exact CRep.frame h hb hS
 | own e n cells =>
  obtain ⟨xs, h1, h2, h3⟩ := h
  exact ⟨xs, ownsRow_frame h1 ho, h2, fun k hk hk2 => (h3 k hk hk2).frame hb hS⟩
 | map kk m =>
  obtain ⟨b, hv, h1⟩ := h
  exact ⟨b, hv, h1.frame hb hS (ho b (by show ownB v.v = some b; rw [hv]; rfl))⟩
 | tree sh c hp => exact ⟨h.1.frame hb hS ho, h.2⟩
 | me f => trivial
 | dead => trivial
theorem owns_none (bx : Nat → Nat) (ph : Nat → Nat → Pv) (t : Nat) (h : r.getD t .none = .none) (κ : Option Nat) (b : Nat) : ¬ owns r bx ph t κ b := by
 cases κ with
 | none => unfold owns; rw [h]; exact fun h => h
 | some o => unfold owns ownOf; rw [h]; exact fun h => h
theorem Heap.frame {w' : World} {S' : Nat → Prop} (h : Heap T w S r bx ph) (hb : ∀ b, S b → w'.heap[b]? = w.heap[b]?) (hS : ∀ b, S b → S' b)
    (ho : ∀ t κ b, owns r bx ph t κ b → w'.heap[b]? = w.heap[b]?) (hsz : w.heap.size ≤ w'.heap.size) (hn : ∀ t κ b, owns r bx ph t κ b → ¬ S' b) (hl : ∀ b, S' b → b < w'.heap.size) : Heap T w' S' r bx ph := by
  refine ⟨fun t => ?_, h.inj, fun t κ b hb' => ⟨hn t κ b hb', Nat.lt_of_lt_of_le (h.free t κ b hb').2 hsz⟩, ⟨hl, h.low.2.frame hb hS⟩⟩
  have hr := h.root t
  have hcell : ∀ o (ho' : o < (r.getD t .none).row.length), RCRep T w S (ph t o) (r.getD t .none).row[o] → RCRep T w' S' (ph t o) (r.getD t .none).row[o] := fun o ho' hrc =>
    hrc.frame hb hS fun b hb' => ho t (some o) b (by
      simp only [owns, ownOf, List.getElem?_eq_getElem ho']
      exact hb')
  cases hR : r.getD t .none with
  | none => trivial
  | box row =>
    rw [hR] at hr hcell
    obtain ⟨⟨arr, e, h1, h2⟩, h3⟩ := hr
    exact ⟨⟨arr, e, (ho t none (bx t) (by unfold owns; rw [hR])).trans h1, h2⟩, fun o ho' => hcell o ho' (h3.1 o ho'), h3.2⟩
  | loose row =>
    rw [hR] at hr hcell
    exact fun o ho' => hcell o ho' (hr o ho')
end Go.Proofs.Ytcpcghnpoekhpaa.A
/- The ghost machine: slices that own what they hold, at the end of a way. -/
set_option linter.unusedSimpArgs false
set_option linter.unusedVariables false
set_option maxRecDepth 100000
set_option maxHeartbeats 4000000
namespace Go.Proofs.Ytcpcghnpoekhpaa.A
open Go
variable {P : Program} {T : TT} {w w' : World} {S S' : Nat → Prop}
def atC : C → Path → C
 | c, [] => c
 | c, (k, _) :: p => atC (cellAt (gc c) k) p
def updC (f : C → C) : C → Path → C
 | c, [] => f c
 | c, (k, _) :: p => .sl (gn c) (setC (gc c) k [updC f (cellAt (gc c) k) p])
def Pv.put : Pv → Path → Pv → Pv
 | _, [], q => q
 | .mk v b ks, (k, _) :: p, q => .mk v b (match ks[k]? with | some u => ks.set k (u.put p q) | none => ks)
theorem lenJ_std (c : C) : lenJ (std P T) c = gn c := by cases c <;> rfl
theorem clsJ_std (c : C) : clsJ (std P T) c = gc c := by cases c <;> rfl
theorem slJ_std (c : C) : slJ (std P T) c = .sl (gn c) (gc c) := by unfold slJ; rw [lenJ_std, clsJ_std]
theorem atJ_std : ∀ (p : Path) (c : C), atJ (std P T) c p = atC c p := by
 intro p
 induction p with
 | nil => intro c; cases c <;> rfl
 | cons x p ih =>
  obtain ⟨k, off⟩ := x
  intro c
  rw [atJ, atC, clsJ_std, ih]; rfl
theorem updJ_std (f : C → C) : ∀ (p : Path) (c : C), updJ (std P T) f c p = updC f c p := by
 intro p
 induction p with
 | nil => intro c; cases c <;> rfl
 | cons x p ih =>
  obtain ⟨k, off⟩ := x
  intro c
  rw [updJ, updC, lenJ_std, clsJ_std, ih]; rfl
theorem Pv.get_nil (pv : Pv) : pv.get? [] = some pv := by cases pv; rfl
theorem Pv.get_cons {v : Value} {b : Option Nat} {ks : List Pv} {k off : Nat} {p : Path} {q : Pv} (h : (Pv.mk v b ks).get? ((k, off) :: p) = some q) : ∃ hk : k < ks.length, ks[k].get? p = some q := by
 rw [Pv.get?] at h
 cases e : ks[k]? with
 | none => rw [e] at h; cases h
 | some u =>
  rw [e] at h
  obtain ⟨hk, rfl⟩ := List.getElem?_eq_some_iff.1 e
  exact ⟨hk, h⟩
theorem cellAt_get {cs : List C} {k : Nat} (h : k < cs.length) : cellAt cs k = cs[k] := by unfold cellAt; rw [List.getD_eq_getElem?_getD, List.getElem?_eq_getElem h]; rfl
theorem CRepT.val {hp : Option (List Nat)} {e : TypeId} {ks : List Sh} {u : Value} {q : Pv} {c : C} (h : CRepT T w S hp (.sl e ks) u q c) : u = q.v := by
 cases h with
 | nil _ => rfl
 | hole => rfl
 | node => rfl
theorem CRepT.sl_cases {hp : Option (List Nat)} {e : TypeId} {ks : List Sh} {u : Value} {q : Pv} {c : C} (h : CRepT T w S hp (.sl e ks) u q c) (hn : q.b = none → q.v = nilSl) :
  (q.v = nilSl ∧ gn c = 0 ∧ gc c = [] ∧ q.b = none ∧ q.kids = []) ∨
  ∃ g cap xs, q.b = some g ∧ q.v = .slice (some ⟨g, 0, none⟩) (gn c) cap ∧ w.ownsRow 0 e (szOf T e) q.v (gn c) xs ∧ (gc c).length = xs.length ∧ q.kids.length = xs.length ∧ c = .sl (gn c) (gc c) ∧ hp ≠ some [] ∧
   ∀ k (h1 : k < xs.length) (h2 : k < q.kids.length) (h3 : k < (gc c).length), CRepT T w S (holeAt hp k) (ks.getD (k % szOf T e) .st) xs[k] q.kids[k] (gc c)[k] := by
 cases h with
 | nil hc => rcases hc with rfl | rfl <;> exact .inl ⟨rfl, rfl, rfl, rfl, rfl⟩
 | hole => exact .inl ⟨hn rfl, rfl, rfl, rfl, rfl⟩
 | node h1 h2 h3 h4 h5 h6 => exact .inr ⟨_, _, _, rfl, rfl, h3, h4, h5, rfl, h1, h6⟩
theorem CRepT.get : ∀ (p : Path) {hp : Option (List Nat)} {sh : Sh} {v : Value} {pv q : Pv} {c : C}, CRepT T w S hp sh v pv c → pv.get? p = some q → pathOk T sh p →
  ∃ hp' u, CRepT T w S hp' (sh.to p) u q (atC c p) ∧ (hp = none → hp' = none) ∧ (p = [] → u = v) := by
 intro p
 induction p with
 | nil =>
  intro hp sh v pv q c h hg _
  rw [Pv.get_nil] at hg; cases hg
  have e : sh.to [] = sh := by cases sh <;> rfl
  rw [e]
  exact ⟨hp, v, h, fun h => h, fun _ => rfl⟩
 | cons x p ih =>
  obtain ⟨k, off⟩ := x
  intro hp sh v pv q c h hg hk
  cases h with
  | st _ => obtain ⟨hk', _⟩ := Pv.get_cons hg; exact absurd hk' (by simp)
  | nil _ => obtain ⟨hk', _⟩ := Pv.get_cons hg; exact absurd hk' (by simp)
  | hole => obtain ⟨hk', _⟩ := Pv.get_cons hg; exact absurd hk' (by simp)
  | node h1 h2 h3 h4 h5 h6 =>
   rename_i e ks g n cap xs cells kids
   obtain ⟨hk', hg'⟩ := Pv.get_cons hg
   obtain ⟨hk1, hk2⟩ := hk
   have hx : k < xs.length := by omega
   have hc : k < cells.length := by omega
   have hh := h6 k hx hk' hc
   rw [hk1] at hh
   obtain ⟨hp', u, a1, a2, _⟩ := ih hh hg' hk2
   refine ⟨hp', u, ?_, fun e => a2 (by rw [e]; rfl), fun e => by cases e⟩
   show CRepT T w S hp' _ u q (atC (cellAt cells k) p)
   rw [cellAt_get hc]; exact a1
theorem ownsRow_cell {b : Nat} {e : TypeId} {sz n cap g : Nat} {xs : List Value} (h : w.ownsRow b e sz (.slice (some ⟨g, 0, none⟩) n cap) n xs) : (∀ k (hk : k < xs.length), w.cell? ⟨g, k, none⟩ = some xs[k]) ∧ n ≤ cap := by
 rcases h.2 with ⟨hv, _⟩ | ⟨g', cap', cur, hv, hB, hheap, hle, hm, hs, ht⟩
 ·cases hv
 ·cases hv
  refine ⟨fun k hk => ?_, hle⟩
  have h5 : (cur.toList.take (n * sz))[k]? = some xs[k] := by rw [ht, List.getElem?_eq_getElem hk]
  rw [List.getElem?_take] at h5
  have hcur : cur[k]? = some xs[k] := by
   split at h5
   ·simpa using h5
   ·cases h5
  simp [World.cell?, hheap, hcur]
theorem Pv.get_snoc : ∀ (p : Path) {pv q : Pv} {k off : Nat}, pv.get? p = some q → (hk : k < q.kids.length) → pv.get? (p ++ [(k, off)]) = some q.kids[k] := by
 intro p
 induction p with
 | nil =>
  intro pv q k off h hk
  rw [Pv.get_nil] at h; cases h
  obtain ⟨v, g, ks⟩ := pv
  have hk' : k < ks.length := hk
  show (match ks[k]? with | some q => q.get? [] | none => none) = _
  rw [List.getElem?_eq_getElem hk']
  exact Pv.get_nil _
 | cons x p ih =>
  obtain ⟨k1, off1⟩ := x
  intro pv q k off h hk
  obtain ⟨v, g, ks⟩ := pv
  obtain ⟨hk1, h1⟩ := Pv.get_cons h
  show (match ks[k1]? with | some q => q.get? (p ++ [(k, off)]) | none => none) = _
  rw [List.getElem?_eq_getElem hk1]
  exact ih h1 hk
theorem Sh.to_snoc : ∀ (p : Path) {sh : Sh} {e : TypeId} {ks : List Sh} {k off : Nat}, sh.to p = .sl e ks → sh.to (p ++ [(k, off)]) = ks.getD off .st := by
 intro p
 induction p with
 | nil =>
  intro sh e ks k off h
  have e0 : sh.to [] = sh := by cases sh <;> rfl
  rw [e0] at h; subst h
  show (ks.getD off .st).to [] = _
  cases ks.getD off .st <;> rfl
 | cons x p ih =>
  intro sh e ks k off h
  obtain ⟨k1, off1⟩ := x
  cases sh with
  | st => cases h
  | sl e1 ks1 => exact ih h
theorem pathOk_snoc : ∀ (p : Path) {sh : Sh} {e : TypeId} {ks : List Sh} {k off : Nat}, pathOk T sh p → sh.to p = .sl e ks → k % szOf T e = off → pathOk T sh (p ++ [(k, off)]) := by
 intro p
 induction p with
 | nil =>
  intro sh e ks k off _ h hk
  have e0 : sh.to [] = sh := by cases sh <;> rfl
  rw [e0] at h; subst h
  exact ⟨hk, by cases ks.getD off .st <;> simp [pathOk]⟩
 | cons x p ih =>
  intro sh e ks k off h h1 hk
  obtain ⟨k1, off1⟩ := x
  cases sh with
  | st => exact h.elim
  | sl e1 ks1 => exact ⟨h.1, ih h.2 h1 hk⟩
theorem Pv.get_blks : ∀ (p : Path) {pv q : Pv}, pv.get? p = some q → ∀ b, b ∈ q.blks → b ∈ pv.blks := by
 intro p
 induction p with
 | nil => intro pv q h b hb; rw [Pv.get_nil] at h; cases h; exact hb
 | cons x p ih =>
  obtain ⟨k, off⟩ := x
  intro pv q h b hb
  obtain ⟨v, g, ks⟩ := pv
  obtain ⟨hk, h'⟩ := Pv.get_cons h
  exact mem_blks.2 (.inr ⟨k, hk, ih h' b hb⟩)
theorem CRepT.still {hp : Option (List Nat)} {sh : Sh} {v : Value} {pv : Pv} {c : C} (h : CRepT T w S hp sh v pv c) : hp = none → CRep w (fun b => S b ∨ b ∈ pv.blks) v c := by
 induction h with
 | st h => exact fun _ => h.frame (fun _ _ => rfl) fun _ h => .inl h
 | nil h => intro _; rcases h with rfl | rfl <;> first | exact .nil | exact .sl0
 | hole => exact fun e => by cases e
 | node h1 h2 h3 h4 h5 _ ih =>
  rename_i e ks g n cap xs cells kids _
  intro hn
  subst hn
  obtain ⟨hcell, hle⟩ := ownsRow_cell h3
  ·refine .sl (fun k => xs.getD k undef) (.inr (mem_blks.2 (.inl rfl))) hle (fun k hk => ?_) (fun k hk => ?_)
   ·have hx : k < xs.length := by omega
    rw [Nat.zero_add, hcell k hx, List.getD_eq_getElem?_getD, List.getElem?_eq_getElem hx]; rfl
   ·have hx : k < xs.length := by omega
    have hkk : k < kids.length := by omega
    have := (ih k hx hkk hk rfl).frame (w' := w) (S' := fun b => S b ∨ b ∈ (Pv.mk (.slice (some ⟨g, 0, none⟩) n cap) (some g) kids).blks) (fun _ _ => rfl) (fun b hb => hb.imp id fun hb => mem_blks.2 (.inr ⟨k, hkk, hb⟩))
    rw [List.getD_eq_getElem?_getD, List.getElem?_eq_getElem hx]; exact this
theorem CRepT.stillN {e : TypeId} {ks : List Sh} {v : Value} {pv : Pv} {c : C} (h : CRepT T w S none (.sl e ks) v pv c) : CRep w (fun b => S b ∨ b ∈ pv.blks) v (.sl (gn c) (gc c)) := by
 have h1 := h.still rfl
 cases h with
 | nil hc => rcases hc with rfl | rfl <;> exact .sl0
 | node => exact h1
theorem CRepT.bval {hp : Option (List Nat)} {e : TypeId} {ks : List Sh} {u : Value} {q : Pv} {c : C} (h : CRepT T w S hp (.sl e ks) u q c) (hb : q.b = none) : q.v = nilSl ∨ hp = some [] := by
 cases h with
 | nil _ => exact .inl rfl
 | hole => exact .inr rfl
 | node => cases hb
theorem CRepT.form {e : TypeId} {ks : List Sh} {v : Value} {pv : Pv} {c : C} (h : CRepT T w S none (.sl e ks) v pv c) : c = .nil ∨ c = .sl (gn c) (gc c) := by
 cases h with
 | nil hc => rcases hc with rfl | rfl <;> first | exact .inl rfl | exact .inr rfl
 | node => exact .inr rfl
theorem CRepT.down : ∀ (p : Path) {sh : Sh} {v : Value} {pv q : Pv} {c : C}, CRepT T w S none sh v pv c → CRep w S' v (.sl (gn c) (gc c)) → pv.get? p = some q → pathOk T sh p → (∃ e ks, sh.to p = .sl e ks) →
  CRep w S' q.v (.sl (gn (atC c p)) (gc (atC c p))) := by
 intro p
 induction p with
 | nil =>
  intro sh v pv q c h hc hg _ ht
  rw [Pv.get_nil] at hg; cases hg
  obtain ⟨e, ks, ht⟩ := ht
  have e0 : sh.to [] = sh := by cases sh <;> rfl
  rw [e0] at ht; subst ht
  rw [← h.val]; exact hc
 | cons x p ih =>
  obtain ⟨k, off⟩ := x
  intro sh v pv q c h hc hg hk ht
  cases h with
  | st _ => obtain ⟨hk', _⟩ := Pv.get_cons hg; exact absurd hk' (by simp)
  | nil _ => obtain ⟨hk', _⟩ := Pv.get_cons hg; exact absurd hk' (by simp)
  | node h1 h2 h3 h4 h5 h6 =>
   rename_i e ks g n cap xs cells kids
   obtain ⟨hk', hg'⟩ := Pv.get_cons hg
   obtain ⟨hk1, hk2⟩ := hk
   have hx : k < xs.length := by omega
   have hcl : k < cells.length := by omega
   have hh := h6 k hx hk' hcl
   rw [hk1] at hh
   have hcell := (ownsRow_cell h3).1 k hx
   have hc' : CRep w S' (.slice (some ⟨g, 0, none⟩) n cap) (.sl n cells) := hc
   show CRep w S' q.v (.sl (gn (atC (cellAt cells k) p)) (gc (atC (cellAt cells k) p)))
   rw [cellAt_get hcl]
   have hk3 : CRep w S' xs[k] cells[k] := by
    cases hc' with
    | sl0 => exact absurd hcl (by simp)
    | sl vs _ _ q1 q2 =>
     have := q1 k hcl
     rw [Nat.zero_add, hcell] at this
     rw [Option.some.inj this]
     exact q2 k hcl
   cases hsh : ks.getD off .st with
   | st =>
    rw [hsh] at hk2
    obtain ⟨e', ks', ht⟩ := ht
    have ht' : (ks.getD off .st).to p = .sl e' ks' := ht
    rw [hsh] at ht'
    cases p <;> cases ht'
   | sl e1 ks1 =>
    rw [hsh] at hh
    have ht' : ∃ e' ks', (Sh.sl e1 ks1).to p = .sl e' ks' := by rw [← hsh]; exact ht
    refine ih (v := xs[k]) hh ?_ hg' (by rw [← hsh]; exact hk2) ht'
    rcases hh.form with e2 | e2
    ·rw [e2] at hk3 ⊢
     generalize xs[k] = z at hk3 ⊢
     cases hk3; exact .sl0
    ·rw [← e2]; exact hk3
/-! ### something else at the end of a way -/
theorem Pv.put_nil (pv q : Pv) : pv.put [] q = q := by cases pv; rfl
theorem Pv.put_cons {v : Value} {b : Option Nat} {ks : List Pv} {k off : Nat} {p : Path} {q : Pv} (hk : k < ks.length) : (Pv.mk v b ks).put ((k, off) :: p) q = .mk v b (ks.set k (ks[k].put p q)) := by
 show Pv.mk v b (match ks[k]? with | some u => ks.set k (u.put p q) | none => ks) = _
 rw [List.getElem?_eq_getElem hk]
theorem blksL_split {ks : List Pv} {k : Nat} (hk : k < ks.length) : ∃ rest, (blksL ks).Perm (ks[k].blks ++ rest) ∧ ∀ u : Pv, (blksL (ks.set k u)).Perm (u.blks ++ rest) := by
 induction ks generalizing k with
 | nil => simp at hk
 | cons x ks ih =>
  cases k with
  | zero => exact ⟨blksL ks, .refl _, fun u => .refl _⟩
  | succ k =>
   have hk' : k < ks.length := by simpa using hk
   obtain ⟨rest, h1, h2⟩ := ih hk'
   refine ⟨x.blks ++ rest, ?_, fun u => ?_⟩
   ·show (x.blks ++ blksL ks).Perm (ks[k].blks ++ (x.blks ++ rest))
    exact (h1.append_left _).trans (List.perm_append_comm_assoc ..)
   ·show (x.blks ++ blksL (ks.set k u)).Perm (u.blks ++ (x.blks ++ rest))
    exact ((h2 u).append_left _).trans (List.perm_append_comm_assoc ..)
theorem Pv.put_blks : ∀ (p : Path) {pv q : Pv}, pv.get? p = some q → ∃ rest, pv.blks.Perm (q.blks ++ rest) ∧ ∀ q' : Pv, (pv.put p q').blks.Perm (q'.blks ++ rest) := by
 intro p
 induction p with
 | nil =>
  intro pv q h
  rw [Pv.get_nil] at h; cases h
  exact ⟨[], by simp, fun q' => by rw [Pv.put_nil]; simp⟩
 | cons x p ih =>
  obtain ⟨k, off⟩ := x
  intro pv q h
  obtain ⟨v, g, ks⟩ := pv
  obtain ⟨hk, h1⟩ := Pv.get_cons h
  obtain ⟨r1, a1, a2⟩ := ih h1
  obtain ⟨r2, b1, b2⟩ := blksL_split hk
  refine ⟨g.toList ++ (r1 ++ r2), ?_, fun q' => ?_⟩
  ·show (g.toList ++ blksL ks).Perm _
   refine ((b1.trans (a1.append_right r2)).append_left _).trans ?_
   rw [List.append_assoc]
   exact List.perm_append_comm_assoc ..
  ·rw [Pv.put_cons hk]
   show (g.toList ++ blksL (ks.set k (ks[k].put p q'))).Perm _
   refine (((b2 _).trans ((a2 q').append_right r2)).append_left _).trans ?_
   rw [List.append_assoc]
   exact List.perm_append_comm_assoc ..
theorem Pv.put_get : ∀ (p' p : Path) {pv q q0 q' : Pv}, pv.get? p = some q → pv.get? p' = some q0 → (p'.length < p.length ∨ (p'.length = p.length ∧ q'.v = q.v ∧ q'.b = q.b)) → ∃ q2, (pv.put p q').get? p' = some q2 ∧ q2.v = q0.v ∧ q2.b = q0.b := by
 intro p'
 induction p' with
 | nil =>
  intro p pv q q0 q' h h0 hl
  rw [Pv.get_nil] at h0; cases h0
  refine ⟨_, Pv.get_nil _, ?_⟩
  cases p with
  | nil =>
   rw [Pv.get_nil] at h; cases h
   rw [Pv.put_nil]
   rcases hl with hl | ⟨_, h1, h2⟩
   ·exact absurd hl (by simp)
   ·exact ⟨h1, h2⟩
  | cons x p => obtain ⟨k, off⟩ := x; obtain ⟨v, g, ks⟩ := pv; exact ⟨rfl, rfl⟩
 | cons x' p' ih =>
  obtain ⟨k', off'⟩ := x'
  intro p pv q q0 q' h h0 hl
  cases p with
  | nil => exact absurd hl (by simp)
  | cons x p =>
   obtain ⟨k, off⟩ := x
   obtain ⟨v, g, ks⟩ := pv
   obtain ⟨hk, h1⟩ := Pv.get_cons h
   obtain ⟨hk', h1'⟩ := Pv.get_cons h0
   rw [Pv.put_cons hk]
   show ∃ q2, (match (ks.set k (ks[k].put p q'))[k']? with | some q => q.get? p' | none => none) = some q2 ∧ _
   rw [List.getElem?_set]
   by_cases e : k = k'
   ·subst e
    rw [if_pos rfl, if_pos hk]
    exact ih p h1 h1' (by simpa using hl)
   ·rw [if_neg e, List.getElem?_eq_getElem hk']
    exact ⟨q0, h1', rfl, rfl⟩
theorem Pv.put_v {pv q : Pv} {p : Path} (h : p ≠ []) : (pv.put p q).v = pv.v := by
 cases p with
 | nil => exact absurd rfl h
 | cons x p => obtain ⟨k, off⟩ := x; obtain ⟨v, g, ks⟩ := pv; rfl
theorem setC_one {cs : List C} {k : Nat} {u : C} (h : k < cs.length) : setC cs k [u] = cs.set k u := by
 unfold setC
 rw [List.set_eq_take_append_cons_drop, if_pos h]
 simp
theorem holeAt_cons (k : Nat) (p : List Nat) : holeAt (some (k :: p)) k = some p := by simp [holeAt]
theorem holeAt_ne {k i : Nat} {p : List Nat} (h : k ≠ i) : holeAt (some (k :: p)) i = none := by simp [holeAt, h]
theorem holeAt_map {k i : Nat} {p : List Nat} (h : Option (List Nat)) (hne : k ≠ i) : holeAt (h.map (k :: p ++ ·)) i = none := by
 cases h with
 | none => rfl
 | some r => exact holeAt_ne hne
theorem holeAt_map_self {k : Nat} {p : List Nat} (h : Option (List Nat)) : holeAt (h.map (k :: p ++ ·)) k = h.map (p ++ ·) := by
 cases h with
 | none => rfl
 | some r => exact holeAt_cons _ _
theorem CRepT.upd : ∀ (p : Path) {sh : Sh} {v : Value} {pv q q' : Pv} {c : C} {f : C → C} {h0 h1 : Option (List Nat)}, CRepT T w S (h0.map (pathN p ++ ·)) sh v pv c → pv.get? p = some q → pathOk T sh p → pv.blks.Nodup →
    (∀ b, S b → w'.heap[b]? = w.heap[b]?) → (∀ b, b ∈ pv.blks → b ∉ q.blks → w'.heap[b]? = w.heap[b]?) → (∀ u, CRepT T w S h0 (sh.to p) u q (atC c p) → CRepT T w' S h1 (sh.to p) u q' (f (atC c p))) →
    CRepT T w' S (h1.map (pathN p ++ ·)) sh v (pv.put p q') (updC f c p) := by
  intro p
  induction p with
  | nil =>
    intro sh v pv q q' c f h0 h1 h hg hk hnd hS ho hf
    rw [Pv.get_nil] at hg; cases hg
    have e0 : sh.to [] = sh := by cases sh <;> rfl
    rw [e0] at hf
    have e1 : ∀ x : Option (List Nat), x.map (pathN [] ++ ·) = x := fun x => by cases x <;> rfl
    rw [e1] at h ⊢
    rw [Pv.put_nil]
    have e2 : updC f c [] = f c := by cases c <;> rfl
    have e3 : atC c [] = c := by cases c <;> rfl
    rw [e2]
    rw [e3] at hf
    exact hf v h
  | cons x p ih =>
    obtain ⟨k, off⟩ := x
    intro sh v pv q q' c f h0 h1 h hg hk hnd hS ho hf
    have ep : pathN ((k, off) :: p) = k :: pathN p := rfl
    rw [ep] at h ⊢
    generalize hgen : h0.map (k :: pathN p ++ ·) = hp0 at h
    cases h with
    | st _ => obtain ⟨hk', _⟩ := Pv.get_cons hg; exact absurd hk' (by simp)
    | nil _ => obtain ⟨hk', _⟩ := Pv.get_cons hg; exact absurd hk' (by simp)
    | hole => obtain ⟨hk', _⟩ := Pv.get_cons hg; exact absurd hk' (by simp)
    | node a1 a2 a3 a4 a5 a6 =>
      rename_i e ks g n cap xs cells kids
      obtain ⟨hk', hg'⟩ := Pv.get_cons hg
      obtain ⟨hk1, hk2⟩ := hk
      have hx : k < xs.length := by omega
      have hc : k < cells.length := by omega
      have hnd2 : g ∉ blksL kids ∧ (blksL kids).Nodup := by
        have : ([g] ++ blksL kids).Nodup := hnd
        exact List.nodup_cons.1 this
      obtain ⟨rest, r1, _⟩ := blksL_split hk'
      have hnd3 : (kids[k].blks ++ rest).Nodup := r1.nodup_iff.1 hnd2.2
      have hqk : ∀ b, b ∈ q.blks → b ∈ kids[k].blks := Pv.get_blks p hg'
      have hgq : g ∉ q.blks := fun hh => hnd2.1 (mem_blksL.2 ⟨k, hk', hqk g hh⟩)
      have hgw : w'.heap[g]? = w.heap[g]? := ho g (mem_blks.2 (.inl rfl)) hgq
      rw [Pv.put_cons hk']
      show CRepT T w' S (h1.map (k :: pathN p ++ ·)) _ _ _ (.sl n (setC cells k [updC f (cellAt cells k) p]))
      rw [setC_one hc, cellAt_get hc]
      have hh := a6 k hx hk' hc
      rw [← hgen, holeAt_map_self, hk1] at hh
      have hnew := ih (q' := q') (f := f) (h1 := h1) hh hg' hk2 (List.nodup_append.1 hnd3).1 hS (fun b hb hb2 => ho b (mem_blks.2 (.inr ⟨k, hk', hb⟩)) hb2) (fun u hu => by
        have := hf u (by
          show CRepT T w S h0 ((ks.getD off .st).to p) u q (atC (cellAt cells k) p)
          rw [cellAt_get hc]; exact hu)
        have e9 : atC (.sl n cells) ((k, off) :: p) = atC cells[k] p := by
          show atC (cellAt cells k) p = _
          rw [cellAt_get hc]
        rw [e9] at this
        exact this)
      refine .node ?_ ?_ (ownsRow_frame a3 fun g' hg2 => by cases hg2; exact hgw) (by rw [List.length_set]; exact a4) (by rw [List.length_set]; exact a5) fun i i1 i2 i3 => ?_
      · cases h1 with
        | none => exact fun hh => by cases hh
        | some r => exact fun hh => by simp at hh
      · intro k2 p2 hh
        cases h1 with
        | none => cases hh
        | some r => simp only [Option.map_some, Option.some.injEq, List.cons_append, List.cons.injEq] at hh; omega
      · by_cases e1 : k = i
        · subst e1
          rw [holeAt_map_self]
          simp only [List.getElem_set_self]
          rw [hk1]; exact hnew
        · rw [holeAt_map _ e1, List.getElem_set_ne e1, List.getElem_set_ne e1]
          have hi2 : i < kids.length := by simpa using i2
          have hi3 : i < cells.length := by simpa using i3
          have := a6 i i1 hi2 hi3
          rw [← hgen, holeAt_map _ e1] at this
          refine this.frame hS (fun _ h => h) fun b hb => ho b (mem_blks.2 (.inr ⟨i, hi2, hb⟩)) fun hbq => ?_
          -- a block of two kids
          have h5 := hqk b hbq
          have : b ∈ rest := by
            have e2 : (kids.set k (.of undef))[i]'(by simpa using hi2) = kids[i] := List.getElem_set_ne e1 _
            obtain ⟨rest2, s1, s2⟩ := blksL_split hk'
            have h6 : b ∈ blksL (kids.set k (.of undef)) := mem_blksL.2 ⟨i, by simpa using hi2, by rw [e2]; exact hb⟩
            have h7 := (s2 (.of undef)).mem_iff.1 h6
            have h8 : b ∈ rest2 := by simpa [Pv.blks, blksL] using h7
            have h9 : (kids[k].blks ++ rest2).Perm (kids[k].blks ++ rest) := s1.symm.trans r1
            exact ((List.perm_append_left_iff _).1 h9).mem_iff.1 h8
          exact (List.nodup_append.1 hnd3).2.2 b h5 b this rfl
end Go.Proofs.Ytcpcghnpoekhpaa.A
/- The ghost machine, part 5: moving cells between roots, freezing, naming. -/
set_option linter.unusedSimpArgs false
set_option linter.unusedVariables false
set_option maxRecDepth 100000
set_option maxHeartbeats 4000000
namespace Go.Proofs.Ytcpcghnpoekhpaa.A
open Go
variable {P : Program} {T : TT} {w w0 : World} {S S0 : Nat → Prop} {F : Fr} {r : List Root} {bx : Nat → Nat} {ph : Nat → Nat → Pv} {a : Act} {st st' : St}
theorem mulSz_std (n sz : Nat) : mulSz (std P T) n sz = n * sz := by
 unfold mulSz; split
 ·rename_i h; subst h; simp
 ·rfl
theorem plus_std (x y : Nat) : plus (std P T) x y = x + y := by
 unfold plus; split
 ·omega
 ·split
  ·omega
  ·rfl
theorem row_withRow (R : Root) (o : Nat) (rc : RC) : (R.withRow (R.row.set o rc)).row = R.row.set o rc := by
 cases R <;> simp [Root.withRow, Root.row]
theorem getD_setCell (r : List Root) (t o : Nat) (rc : RC) (u : Nat) :
  (setCellR r t o rc).getD u .none = if t = u then (r.getD t .none).withRow ((r.getD t .none).row.set o rc) else r.getD u .none := by
 unfold setCellR
 rw [getD_set]
 by_cases h : t = u
 ·subst h
  by_cases h2 : t < r.length
  ·simp [h2]
  ·have : r.getD t .none = .none := by rw [List.getD_eq_getElem?_getD, List.getElem?_eq_none (by omega)]; rfl
   rw [this]; simp [h2, Root.withRow]
 ·simp [h]
theorem row_setCell (r : List Root) (t o : Nat) (rc : RC) (u : Nat) :
  ((setCellR r t o rc).getD u .none).row = if t = u then (r.getD t .none).row.set o rc else (r.getD u .none).row := by
 rw [getD_setCell]; split
 ·rw [row_withRow]
 ·rfl
theorem length_setCell (r : List Root) (t o : Nat) (rc : RC) : (setCellR r t o rc).length = r.length := by simp [setCellR]
theorem getD_push {r : List Root} {N : Nat} (hN : N < r.length) (rc : RC) (u : Nat) :
  (pushR r N rc).getD u .none = if N = u then .loose ((r.getD N .none).row ++ [rc]) else r.getD u .none := by
 unfold pushR
 rw [getD_set]
 by_cases h : N = u
 ·subst h; simp [hN]
 ·simp [h]
theorem length_push (r : List Root) (N : Nat) (rc : RC) : (pushR r N rc).length = r.length := by simp [pushR]
theorem box_setCell {r : List Root} {t o u : Nat} {rc : RC} {row : List RC} (h : r.getD u .none = .box row) : ∃ row', (setCellR r t o rc).getD u .none = .box row' ∧ row'.length = row.length := by
 rw [getD_setCell]; split
 ·rename_i e; subst e; rw [h]; exact ⟨_, rfl, by simp [Root.row]⟩
 ·exact ⟨row, h, rfl⟩
theorem owns_cell {r : List Root} {t o : Nat} {b : Nat} (h : owns r bx ph t (some o) b) : ∃ rc, (r.getD t .none).row[o]? = some rc ∧ rc.blk (ph t o) b := by
 unfold owns ownOf at h
 dsimp only at h
 split at h
 ·rename_i rc hh; exact ⟨rc, hh, h⟩
 ·exact h.elim
theorem owns_of_cell {r : List Root} {t o : Nat} {rc : RC} (h : (r.getD t .none).row[o]? = some rc) : owns r bx ph t (some o) = rc.blk (ph t o) := by
 funext b; unfold owns ownOf; dsimp only; rw [h]
theorem own_blk {r : List Root} {bx : Nat → Nat} {ph : Nat → Nat → Pv} {t o b : Nat} {rc : RC} (h : (r.getD t .none).row[o]? = some rc) (k : rc.blk (ph t o) b) : owns r bx ph t (some o) b := by rw [owns_of_cell h]; exact k
theorem noMe_get {row : List RC} (h : row.any RC.isMe = false) {o : Nat} {f : Option FuncId} (hr : row[o]? = some (.me f)) : False := by
 have := List.any_eq_false.1 h _ (List.mem_of_getElem? hr)
 exact this rfl
theorem mapAt_eq {r : List Root} {t o : Nat} {kk : KK} {m : GM} (h : mapAt r t o = some (kk, m)) : (r.getD t .none).row[o]? = some (.map kk m) := by
 unfold mapAt rootOf at h
 split at h
 ·rename_i hh; cases h; exact hh
 ·cases h
theorem treeAt_eq {r : List Root} {t o : Nat} {sh : Sh} {c : C} {h : Option Path} (hh : treeAt r t o = some (sh, c, h)) : (r.getD t .none).row[o]? = some (.tree sh c h) := by
 unfold treeAt rootOf at hh
 split at hh
 ·rename_i h1; cases hh; exact h1
 ·cases hh
theorem nodeAt_eq {r : List Root} {t o : Nat} {p : Path} {e : TypeId} {ks : List Sh} {n : Nat} {cells : List C} (hh : nodeAt (std P T) r t o p = some (e, ks, n, cells)) :
  ∃ sh c h, (r.getD t .none).row[o]? = some (.tree sh c h) ∧ sh.to p = .sl e ks ∧ n = gn (atC c p) ∧ cells = gc (atC c p) := by
 unfold nodeAt at hh
 split at hh
 ·rename_i sh c h ht
  split at hh
  ·rename_i e' ks' hs
   cases hh
   exact ⟨sh, c, h, treeAt_eq ht, hs, by rw [lenJ_std, atJ_std], by rw [clsJ_std, atJ_std]⟩
  ·cases hh
 ·cases hh
theorem owns_box {r : List Root} {t : Nat} {b : Nat} (h : owns r bx ph t none b) : ∃ row, r.getD t .none = .box row ∧ b = bx t := by
 unfold owns at h
 dsimp only at h
 split at h
 ·rename_i row hh; exact ⟨row, hh, h.symm⟩
 ·exact h.elim
theorem owns_of_box {r : List Root} {t : Nat} {row : List RC} (h : r.getD t .none = .box row) : owns r bx ph t none (bx t) := by
 unfold owns; dsimp only; rw [h]
theorem ownAt_eq {r : List Root} {t o : Nat} {e : TypeId} {n : Nat} {cells : List C} (h : ownAt r t o = some (e, n, cells)) : (r.getD t .none).row[o]? = some (.own e n cells) := by
 unfold ownAt rootOf at h
 split at h
 ·rename_i hh; cases h; exact hh
 ·cases h
theorem Heap.cell (h : Heap T w S r bx ph) {t o : Nat} {rc : RC} (hc : (r.getD t .none).row[o]? = some rc) : RCRep T w S (ph t o) rc := by
 have hr := h.root t
 obtain ⟨ho, he⟩ := List.getElem?_eq_some_iff.1 hc
 cases hR : r.getD t .none with
 | none => simp only [hR, Root.row] at ho; exact absurd ho (by simp)
 | box row =>
  simp only [hR] at hr ho he
  rw [← he]; exact hr.2.1 o ho
 | loose row =>
  simp only [hR] at hr ho he
  rw [← he]; exact hr o ho
theorem RootRep.setCell {R : Root} {b : Nat} {φ : Nat → Pv} {o : Nat} {rc : RC} (h : RootRep T w S b φ R) (hc : o < R.row.length → RCRep T w S (φ o) rc) (hme : rc.isMe = false) : RootRep T w S b φ (R.withRow (R.row.set o rc)) := by
 have key : ∀ row : List RC, (o < row.length → RCRep T w S (φ o) rc) → (∀ k (hk : k < row.length), RCRep T w S (φ k) row[k]) → ∀ k (hk : k < (row.set o rc).length), RCRep T w S (φ k) (row.set o rc)[k] := by
  intro row hc hr k hk
  rw [List.getElem_set]
  split
  ·rename_i e; subst e; exact hc (by simpa using hk)
  ·exact hr k _
 cases R with
 | none => trivial
 | box row =>
  obtain ⟨⟨arr, e, h1, h2, h3⟩, h4⟩ := h
  refine ⟨⟨arr, e, h1, by simp [h2, Root.row], fun k hk => h3 k (by simpa [Root.row] using hk)⟩, key row hc h4.1, fun k f hk => ?_⟩
  have hk' : (row.set o rc)[k]? = some (.me f) := hk
  rw [List.getElem?_set] at hk'
  split at hk'
  ·split at hk'
   ·cases hk'; cases hme
   ·cases hk'
  ·exact h4.2 k f hk'
 | loose row => exact key row hc h
theorem owns_dead {t o u : Nat} {κ : Option Nat} {b : Nat} (h : owns (setCellR r t o .dead) bx ph u κ b) : owns r bx ph u κ b ∧ ¬ (u = t ∧ κ = some o) := by
 cases κ with
 | none =>
  obtain ⟨row, h1, rfl⟩ := owns_box h
  rw [getD_setCell] at h1
  refine ⟨?_, by simp⟩
  split at h1
  ·rename_i e; subst e
   cases hR : r.getD t .none with
   | box row' => exact owns_of_box hR
   | none => rw [hR] at h1; cases h1
   | loose row' => rw [hR] at h1; cases h1
  ·exact owns_of_box h1
 | some p =>
  obtain ⟨rc, h1, h2⟩ := owns_cell h
  rw [row_setCell] at h1
  split at h1
  ·rename_i e; subst e
   rw [List.getElem?_set] at h1
   split at h1
   ·split at h1 <;> cases h1
    cases h2
   ·rename_i hne
    refine ⟨own_blk h1 h2, fun hh => hne ?_⟩
    have := hh.2; simp at this; exact this.symm
  ·rename_i hne
   exact ⟨own_blk h1 h2, fun hh => hne hh.1.symm⟩
theorem Heap.dead (h : Heap T w S r bx ph) (t o : Nat) : Heap T w S (setCellR r t o .dead) bx ph := by
 refine ⟨fun u => ?_, fun u κ u' κ' b h1 h2 => h.inj u κ u' κ' b (owns_dead h1).1 (owns_dead h2).1, fun u κ b h1 => h.free u κ b (owns_dead h1).1, h.low⟩
 rw [getD_setCell]; split
 ·rename_i e; subst e; exact (h.root t).setCell (fun _ => trivial) rfl
 ·exact h.root u
def phPush (ph : Nat → Nat → Pv) (N L : Nat) (v : Pv) : Nat → Nat → Pv := fun t o => if t = N ∧ o = L then v else ph t o
theorem owns_push {N : Nat} (hN : N < r.length) (hb : ∀ row, r.getD N .none ≠ .box row) {rc : RC} {v : Pv} {u : Nat} {κ : Option Nat} {b : Nat}
  (h : owns (pushR r N rc) bx (phPush ph N (r.getD N .none).row.length v) u κ b) :
  (u = N ∧ κ = some (r.getD N .none).row.length ∧ rc.blk v b) ∨ (owns r bx ph u κ b ∧ ¬ (u = N ∧ κ = some (r.getD N .none).row.length)) := by
 cases κ with
 | none =>
  obtain ⟨row, h1, rfl⟩ := owns_box h
  rw [getD_push hN] at h1
  split at h1
  ·cases h1
  ·exact .inr ⟨owns_of_box h1, by simp⟩
 | some p =>
  obtain ⟨rc', h1, h2⟩ := owns_cell h
  rw [getD_push hN] at h1
  by_cases hu : N = u
  ·subst hu
   rw [if_pos rfl] at h1
   have h1' : ((r.getD N .none).row ++ [rc])[p]? = some rc' := h1
   clear h1
   rw [List.getElem?_append] at h1'
   split at h1'
   ·rename_i hp
    have hne : p ≠ (r.getD N .none).row.length := by omega
    simp only [phPush] at h2
    rw [if_neg (fun hh => hne hh.2)] at h2
    exact .inr ⟨own_blk h1' h2, fun hh => hne (by simpa using hh.2)⟩
   ·rename_i hp
    obtain ⟨hi, he⟩ := List.getElem?_eq_some_iff.1 h1'
    have hp2 : p = (r.getD N .none).row.length := by
     have : p - (r.getD N .none).row.length < 1 := hi
     omega
    have he2 : rc = rc' := by
     have : ([rc] : List RC)[p - (r.getD N .none).row.length]? = some rc' := by rw [List.getElem?_eq_getElem hi, he]
     rw [show p - (r.getD N .none).row.length = 0 by omega] at this
     simpa using this
    rw [hp2] at h2
    simp only [phPush] at h2
    rw [if_pos ⟨trivial, trivial⟩] at h2
    exact .inl ⟨rfl, by rw [hp2], by rw [he2]; exact h2⟩
  ·rw [if_neg hu] at h1
   simp only [phPush] at h2
   rw [if_neg (fun hh => hu hh.1.symm)] at h2
   exact .inr ⟨own_blk h1 h2, fun hh => hu hh.1.symm⟩
theorem Heap.push (h : Heap T w S r bx ph) {N : Nat} (hN : N < r.length) (hb : ∀ row, r.getD N .none ≠ .box row) {rc : RC} {v : Pv} (hrc : RCRep T w S v rc)
  (hfree : ∀ b, rc.blk v b → ¬ S b ∧ b < w.heap.size ∧ ∀ u κ, ¬ owns r bx ph u κ b) :
  Heap T w S (pushR r N rc) bx (phPush ph N (r.getD N .none).row.length v) := by
 refine ⟨fun u => ?_, fun u κ u' κ' b h1 h2 => ?_, fun u κ b h1 => ?_, h.low⟩
 ·rw [getD_push hN]
  by_cases hu : N = u
  ·subst hu
   rw [if_pos rfl]
   intro o ho
   have hcell : ∀ o (ho : o < (r.getD N .none).row.length), RCRep T w S (ph N o) (r.getD N .none).row[o] := fun o ho => h.cell (List.getElem?_eq_getElem ho)
   have ho' : o < ((r.getD N .none).row ++ [rc]).length := ho
   show RCRep T w S (phPush ph N (r.getD N .none).row.length v N o) ((r.getD N .none).row ++ [rc])[o]
   generalize hrow : (r.getD N .none).row = row at *
   rw [List.getElem_append]
   split
   ·rename_i ho2
    have : ¬ (N = N ∧ o = row.length) := by omega
    unfold phPush
    rw [if_neg this]
    exact hcell o ho2
   ·have : o = row.length := by simp at ho'; omega
    unfold phPush
    rw [if_pos (And.intro rfl this)]
    subst this
    simpa using hrc
  ·rw [if_neg hu]
   have := h.root u
   have e : phPush ph N (r.getD N .none).row.length v u = ph u := by funext o; simp [phPush, Ne.symm hu]
   rw [e]; exact this
 ·rcases owns_push hN hb h1 with ⟨rfl, rfl, hv⟩ | ⟨h1o, hne⟩
  ·rcases owns_push hN hb h2 with ⟨rfl, rfl, _⟩ | ⟨h2, hne⟩
   ·exact ⟨rfl, rfl⟩
   ·exact absurd h2 ((hfree b hv).2.2 _ _)
  ·rcases owns_push hN hb h2 with ⟨_, _, hv⟩ | ⟨h2o, hne2⟩
   ·exact absurd h1o ((hfree b hv).2.2 _ _)
   ·exact h.inj _ _ _ _ b h1o h2o
 ·rcases owns_push hN hb h1 with ⟨rfl, rfl, hv⟩ | ⟨h1, hne⟩
  ·exact ⟨(hfree b hv).1, (hfree b hv).2.1⟩
  ·exact h.free _ _ b h1
theorem Rel.ghost (h : Rel T w0 S0 F st a w S bx ph) {S' : Nat → Prop} {bx' : Nat → Nat} {ph' : Nat → Nat → Pv} (f : X → X)
  (hs : st'.s = st.s.map (mapV f)) (hr : st'.r.length = st.r.length) (hh : Heap T w S' st'.r bx' ph')
  (hm : ∀ t κ b, owns st'.r bx' ph' t κ b → ∃ t κ, owns st.r bx ph t κ b)
  (hf : ∀ v x, XRep T w S st.r bx ph v x → XRep T w S' st'.r bx' ph' v (f x))
  (hk : ∀ b, S b → S' b) (hn : ∀ b, S' b → S b ∨ ∃ t κ, owns st.r bx ph t κ b) (hbx : ∀ t, st.s.length < t → bx' t = bx t := by exact fun _ _ => rfl) : Rel T w0 S0 F st' a w S' bx' ph' := by
 have hl : st'.s.length = st.s.length := by rw [hs]; simp
 refine ⟨by rw [hl]; exact h.size, ⟨by rw [hr, hl]; exact h.rsize.1, fun t ht => by rw [hl] at ht; rw [hbx t ht]; exact h.rsize.2 t ht⟩, h.defers, hh, fun t κ b hb => ?_, ?_, fun b hb => hk b (h.keep b hb), fun b hb => ?_, h.chg⟩
 ·obtain ⟨t', κ', hb'⟩ := hm t κ b hb; exact h.mine t' κ' b hb'
 ·rw [hs]; exact slots_map f hf h.slot
 ·rcases hn b hb with hb | ⟨t, κ, hb⟩
  ·exact h.new b hb
  ·exact .inr (h.mine t κ b hb)
end Go.Proofs.Ytcpcghnpoekhpaa.A
/- The ghost machine, part 6: push, freeze, name are sound. -/
set_option linter.unusedSimpArgs false
set_option linter.unusedVariables false
set_option maxRecDepth 100000
set_option maxHeartbeats 4000000
namespace Go.Proofs.Ytcpcghnpoekhpaa.A
open Go
variable {P : Program} {T : TT} {w w0 : World} {S S0 : Nat → Prop} {F : Fr} {bx : Nat → Nat} {ph : Nat → Nat → Pv} {a : Act} {st st' : St}
theorem XRep.push {r : List Root} {N : Nat} (hN : N < r.length) (hb : ∀ row, r.getD N .none ≠ .box row) {rc : RC} {v : Pv} {u : Value} {y : X} (h : XRep T w S r bx ph u y) :
  XRep T w S (pushR r N rc) bx (phPush ph N (r.getD N .none).row.length v) u y := by
 refine h.congr (fun t o rc' _ _ hc => ?_) (fun t o _ row h1 h2 => ?_) (fun f caps _ t _ row h1 => ?_)
 ·obtain ⟨ho, _⟩ := List.getElem?_eq_some_iff.1 hc
  rw [getD_push hN]
  by_cases e : N = t
  ·subst e
   rw [if_pos rfl]
   refine ⟨?_, ?_⟩
   ·show ((r.getD N .none).row ++ [rc])[o]? = _
    rw [List.getElem?_append_left ho]; exact hc
   ·unfold phPush; rw [if_neg (by omega)]
  ·rw [if_neg e]
   exact ⟨hc, by unfold phPush; rw [if_neg (fun hh => e hh.1.symm)]⟩
 ·refine ⟨row, ?_, h2, rfl⟩
  rw [getD_push hN, if_neg (by rintro rfl; exact hb row h1)]; exact h1
 ·refine ⟨row, ?_, rfl, rfl⟩
  rw [getD_push hN, if_neg (by rintro rfl; exact hb row h1)]; exact h1
theorem XRep.dead {r : List Root} {t o : Nat} {u : Value} {y : X} (h : XRep T w S r bx ph u y) (hy : ofCell t o y = false) : XRep T w S (setCellR r t o .dead) bx ph u y := by
 refine h.congr (fun t' o' rc' ho' _ hc => ?_) (fun t' o' _ row h1 h2 => ?_) (fun f caps _ t' _ row h1 => ?_)
 ·refine ⟨?_, rfl⟩
  rw [row_setCell]
  split
  ·rename_i e; subst e
   rw [List.getElem?_set]
   split
   ·rename_i e; subst e; rw [hy] at ho'; cases ho'
   ·exact hc
  ·exact hc
 ·obtain ⟨row', a, b⟩ := box_setCell (t := t) (o := o) (rc := .dead) h1
  exact ⟨row', a, by omega, rfl⟩
 ·obtain ⟨row', a, b⟩ := box_setCell (t := t) (o := o) (rc := .dead) h1
  exact ⟨row', a, b, rfl⟩
theorem map_id' (s : List V) : s.map (mapV fun x => x) = s := by
 have : (mapV fun x => x) = id := by funext V; exact mapV_id V
 rw [this]; simp
structure Pushed (T : TT) (w0 : World) (S0 : Nat → Prop) (F : Fr) (st st' : St) (a : Act) (w : World) (S : Nat → Prop) (bx : Nat → Nat) (ph ph' : Nat → Nat → Pv) (vs : List Value) : Prop where
 rel : Rel T w0 S0 F st' a w S bx ph'
 len : st'.s.length = st.s.length
 row : ∃ rcs : List RC, rcs.length = vs.length ∧ (st'.r.getD st.s.length .none).row = (st.r.getD st.s.length .none).row ++ rcs
 loose : ∀ row, st'.r.getD st.s.length .none ≠ .box row
 vals : ∀ k (h : k < vs.length), (ph' st.s.length ((st.r.getD st.s.length .none).row.length + k)).v = vs[k]
 old : ∀ k, k < (st.r.getD st.s.length .none).row.length → ph' st.s.length k = ph st.s.length k
 boxes : ∀ t row, st.r.getD t .none = .box row → ∃ row', st'.r.getD t .none = .box row' ∧ row'.length = row.length
 back : ∀ t row, t ≠ st.s.length → st'.r.getD t .none = .box row → ∃ row', st.r.getD t .none = .box row' ∧ row'.length = row.length
 phs : ∀ t o : Nat, t ≠ st.s.length → ph' t o = ph t o
 same : ∀ t o : Nat, t ≠ st.s.length → (st'.r.getD t .none).row[o]? = (st.r.getD t .none).row[o]? ∨ (st'.r.getD t .none).row[o]? = some RC.dead
theorem push_sound (h : Rel T w0 S0 F st a w S bx ph) (hb : ∀ row, st.r.getD st.s.length .none ≠ .box row) {x : X} {v : Value} (hx : XRep T w S st.r bx ph v x)
    (hp : push T (std P T) st x = some st') :
    ∃ ph', Pushed T w0 S0 F st st' a w S bx ph ph' [v] ∧ ∀ u y, (∀ t o, cellOf x = some (t, o) → ofCell t o y = false) → XRep T w S st.r bx ph u y → XRep T w S st'.r bx ph' u y := by
  have hN : st.s.length < st.r.length := by have := h.rsize.1; omega
  have fin : ∀ (r1 : List Root) (rc : RC) (p : X → Bool) (pv : Pv), pv.v = v → r1.length = st.r.length → r1.getD st.s.length .none = st.r.getD st.s.length .none → Heap T w S r1 bx ph →
      RCRep T w S pv rc → (∀ b, rc.blk pv b → (∃ t κ, owns st.r bx ph t κ b) ∧ ∀ u κ, ¬ owns r1 bx ph u κ b) →
      (∀ t κ b, owns r1 bx ph t κ b → owns st.r bx ph t κ b) → (∀ u y, p y = false → XRep T w S st.r bx ph u y → XRep T w S r1 bx ph u y) →
      (∀ t row, st.r.getD t .none = .box row → ∃ row', r1.getD t .none = .box row' ∧ row'.length = row.length) →
      (∀ t row, r1.getD t .none = .box row → ∃ row', st.r.getD t .none = .box row' ∧ row'.length = row.length) →
      (∀ t o : Nat, (r1.getD t .none).row[o]? = (st.r.getD t .none).row[o]? ∨ (r1.getD t .none).row[o]? = some RC.dead) →
      st' = { s := kill p st.s, r := pushR r1 st.s.length rc } →
      ∃ ph', Pushed T w0 S0 F st st' a w S bx ph ph' [v] ∧ ∀ u y, p y = false → XRep T w S st.r bx ph u y → XRep T w S st'.r bx ph' u y := by
    intro r1 rc p pv hpv hl hg hh hrc hfree hsub hxr hbx hbk hsm he
    subst he
    have hN1 : st.s.length < r1.length := by rw [hl]; exact hN
    have hb1 : ∀ row, r1.getD st.s.length .none ≠ .box row := by rw [hg]; exact hb
    have hh2 := Heap.push hh hN1 hb1 hrc (fun b h1 => by
      obtain ⟨⟨t, κ, h3⟩, h4⟩ := hfree b h1
      exact ⟨(h.heap.free t κ b h3).1, (h.heap.free t κ b h3).2, h4⟩)
    refine ⟨phPush ph st.s.length (r1.getD st.s.length .none).row.length pv, ⟨?_, by simp [kill], ⟨[rc], rfl, ?_⟩, ?_, ?_, ?_, ?_, ?_, fun t o hne => ?_, fun t o hne => ?_⟩, fun u y hy hu => XRep.push hN1 hb1 (hxr u y hy hu)⟩
    · refine h.ghost (fun x => if p x then .undef else x) rfl (by simp [length_push, hl]) hh2 (fun t κ b hb' => ?_) (fun u y hu => ?_) (fun _ h => h) (fun _ h => .inl h)
      · rcases owns_push hN1 hb1 hb' with ⟨_, _, hv⟩ | ⟨h1, _⟩
        · exact (hfree b hv).1
        · exact ⟨t, κ, hsub t κ b h1⟩
      · dsimp only
        split
        · trivial
        · rename_i hp; exact XRep.push hN1 hb1 (hxr u y (by simpa using hp) hu)
    · rw [getD_push hN1, if_pos rfl, hg]; rfl
    · intro row; rw [getD_push hN1, if_pos rfl]; exact fun h => by cases h
    · intro k hk
      have : k = 0 := by simpa using hk
      subst this
      unfold phPush; rw [hg]; simpa using hpv
    · intro k hk
      unfold phPush; rw [hg, if_neg (by omega)]
    · intro t row h1
      obtain ⟨row', h2, h3⟩ := hbx t row h1
      refine ⟨row', ?_, h3⟩
      rw [getD_push hN1, if_neg (by rintro rfl; exact hb1 row' h2)]; exact h2
    · intro t row hne h1
      rw [getD_push hN1, if_neg (fun e => hne e.symm)] at h1
      exact hbk t row h1
    · unfold phPush; rw [if_neg (fun e => hne e.1)]
    · rw [getD_push hN1, if_neg (fun e => hne e.symm)]; exact hsm t o
  have hbd : ∀ t o u row, (setCellR st.r t o .dead).getD u .none = .box row → ∃ row', st.r.getD u .none = .box row' ∧ row'.length = row.length := fun t o u row h1 => by
    rw [getD_setCell] at h1
    split at h1
    · rename_i e; subst e
      cases hR : st.r.getD t .none with
      | none => rw [hR] at h1; cases h1
      | loose row' => rw [hR] at h1; cases h1
      | box row' => rw [hR] at h1; cases h1; exact ⟨row', rfl, by simp [Root.row]⟩
    · exact ⟨row, h1, rfl⟩
  have ownCase : ∀ t o rc0, (st.r.getD t .none).row[o]? = some rc0 → t ≠ st.s.length → ∀ (rc : RC) (pv : Pv), pv.v = v → RCRep T w S pv rc → (∀ b, rc.blk pv b → rc0.blk (ph t o) b) →
      st' = { s := kill (ofCell t o) st.s, r := pushR (setCellR st.r t o .dead) st.s.length rc } →
      ∃ ph', Pushed T w0 S0 F st st' a w S bx ph ph' [v] ∧ ∀ u y, ofCell t o y = false → XRep T w S st.r bx ph u y → XRep T w S st'.r bx ph' u y := by
    intro t o rc0 hc hne rc pv hpv hrc hv he
    refine fin (setCellR st.r t o .dead) rc (ofCell t o) pv hpv (length_setCell _ _ _ _) ?_ (h.heap.dead t o) hrc ?_ (fun t κ b hb' => (owns_dead hb').1) (fun u y hy hu => XRep.dead hu hy) (fun u row h1 => box_setCell h1) (hbd t o) (fun u o' => ?_) he
    · rw [getD_setCell, if_neg hne]
    · intro b hb'
      have h1 := own_blk (bx := bx) (ph := ph) hc (hv b hb')
      refine ⟨⟨t, some o, h1⟩, fun u κ h2 => ?_⟩
      obtain ⟨h3, h4⟩ := owns_dead h2
      exact h4 (h.heap.inj _ _ _ _ b h3 h1)
    · rw [row_setCell]
      split
      · rename_i e1; subst e1
        rw [List.getElem?_set]
        split
        · split
          · exact .inr rfl
          · rename_i e2 e3
            left
            rw [← e2, List.getElem?_eq_none (by omega)]
        · exact .inl rfl
      · exact .inl rfl
  unfold push at hp
  cases x with
  | c c =>
    simp only [Option.some.injEq] at hp
    obtain ⟨ph', h1, h2⟩ := fin st.r (.st c) (fun _ => false) (.of v) rfl rfl rfl h.heap hx (fun b he => he.elim) (fun _ _ _ h => h) (fun _ _ _ h => h) (fun t row h1 => ⟨row, h1, rfl⟩) (fun t row h1 => ⟨row, h1, rfl⟩) (fun _ _ => .inl rfl)
      (by rw [← hp]; simp only [kill]; congr 1; exact (map_id' _).symm)
    exact ⟨ph', h1, fun u y _ hu => h2 u y rfl hu⟩
  | view t o =>
    dsimp only at hp
    split at hp
    · rename_i e n cells ho
      split at hp
      · cases hp
      · rename_i hne
        simp only [Option.some.injEq] at hp
        obtain ⟨e', n', cells', hc, hv⟩ := hx
        have hc2 := ownAt_eq ho
        obtain ⟨ph', h1, h2⟩ := ownCase t o _ hc2 hne (.own e n cells) (ph t o) hv.symm (h.heap.cell hc2) (fun b hb' => hb') hp.symm
        exact ⟨ph', h1, fun u y hy hu => h2 u y (hy t o rfl) hu⟩
    · cases hp
  | mv t o =>
    dsimp only at hp
    split at hp
    · rename_i kk m ho
      split at hp
      · cases hp
      · rename_i hne
        simp only [Option.some.injEq] at hp
        obtain ⟨kk', m', hc, hv⟩ := hx
        have hc2 := mapAt_eq ho
        obtain ⟨ph', h1, h2⟩ := ownCase t o _ hc2 hne (.map kk m) (ph t o) hv.symm (h.heap.cell hc2) (fun b hb' => hb') hp.symm
        exact ⟨ph', h1, fun u y hy hu => h2 u y (hy t o rfl) hu⟩
    · cases hp
  | sub t o lo hi =>
    dsimp only at hp
    split at hp
    · rename_i e n cells ho
      split at hp
      · cases hp
      · rename_i hne
        have hne1 : t ≠ st.s.length := fun h => hne (.inl h)
        have hlo : lo = 0 := by
          by_cases hh : lo = 0
          · exact hh
          · exact absurd (.inr hh) hne
        subst hlo
        simp only [Option.some.injEq] at hp
        obtain ⟨e', n', cells', aa, cap, a', hc, hv, h1, h2, h3, h4, _⟩ := hx
        have hc2 := ownAt_eq ho
        rw [hc] at hc2
        cases hc2
        have ha := h4 rfl
        subst ha
        obtain ⟨xs, x1, x2, x3⟩ := h.heap.cell hc
        rw [hv] at x1
        have hrc2 : RCRep T w S (.of v) (.own e hi ((std P T).ext cells 0 (mulSz (std P T) hi (szOf T e)))) := by
          rw [mulSz_std]
          refine ⟨xs.take (hi * szOf T e), ?_, ?_, ?_⟩
          · show World.ownsRow _ _ _ _ v _ _; rw [h3]; simpa using owns_take x1 h2
          · show _ = (extC cells 0 (hi * szOf T e)).length
            simp [extC, x2]
          · intro k hk hk2
            have hk' : k < (extC cells 0 (hi * szOf T e)).length := hk
            have hk3 : k < cells.length := by simp [extC] at hk'; omega
            have e1 : (extC cells 0 (hi * szOf T e))[k] = cells[k] := by simp [extC]
            show CRep w S (xs.take (hi * szOf T e))[k] (extC cells 0 (hi * szOf T e))[k]
            rw [e1, List.getElem_take]
            exact x3 k _ _
        obtain ⟨ph', p1, p2⟩ := ownCase t o _ hc hne1 _ (.of v) rfl hrc2 (fun b hb' => by have hb2 : v.ownBlock = some b := hb'; show (ph t o).v.ownBlock = some b; rw [h3] at hb2; rw [hv]; cases a' with | none => cases hb2 | some x => exact hb2) hp.symm
        exact ⟨ph', p1, fun u y hy hu => p2 u y (hy t o rfl) hu⟩
    · cases hp
  | ptr t o => cases hp
  | eptr t o k => cases hp
  | mem cells off =>
    simp only [Option.some.injEq] at hp
    obtain ⟨ph', h1, h2⟩ := fin st.r (.st (.mem cells off)) (fun _ => false) (.of v) rfl rfl rfl h.heap (by obtain ⟨b, base, vs, q1, q2, q3, q4⟩ := hx; show CRep w S v _; rw [q1]; exact .mem vs q2 q3 q4) (fun b he => he.elim) (fun _ _ _ h => h) (fun _ _ _ h => h) (fun t row h1 => ⟨row, h1, rfl⟩) (fun t row h1 => ⟨row, h1, rfl⟩) (fun _ _ => .inl rfl)
      (by rw [← hp]; simp only [kill]; congr 1; exact (map_id' _).symm)
    exact ⟨ph', h1, fun u y _ hu => h2 u y rfl hu⟩
  | fn f caps => cases hp
  | bfn f t => cases hp
  | tv t o p =>
    cases p with
    | cons _ _ => cases hp
    | nil =>
      dsimp only at hp
      split at hp
      · rename_i sh c ho
        split at hp
        · cases hp
        · rename_i hne
          simp only [Option.some.injEq] at hp
          obtain ⟨sh', c', hh', q, hc, hv, _, _, _, hv2⟩ := hx
          rw [Pv.get_nil] at hv; cases hv
          have hc2 := treeAt_eq ho
          obtain ⟨ph', h1, h2⟩ := ownCase t o _ hc2 hne (.tree sh c none) (ph t o) hv2.symm (h.heap.cell hc2) (fun b hb' => hb') hp.symm
          exact ⟨ph', h1, fun u y hy hu => h2 u y (hy t o rfl) hu⟩
      · cases hp
  | tp t o p k off => cases hp
  | undef => cases hp
theorem pushAll_sound : ∀ (xs : List X) (vs : List Value) (st : St) (ph : Nat → Nat → Pv), Rel T w0 S0 F st a w S bx ph → (∀ row, st.r.getD st.s.length .none ≠ .box row) →
    vs.length = xs.length → (∀ k (h : k < xs.length) (h2 : k < vs.length), XRep T w S st.r bx ph vs[k] xs[k]) → pushAll T (std P T) st xs = some st' →
    ∃ ph', Pushed T w0 S0 F st st' a w S bx ph ph' vs := by
  intro xs
  induction xs with
  | nil =>
    intro vs st ph h hb hl _ hp
    have : vs = [] := List.eq_nil_of_length_eq_zero hl
    subst this
    simp only [pushAll, Option.some.injEq] at hp
    subst hp
    exact ⟨ph, h, rfl, ⟨[], rfl, by simp⟩, hb, fun k hk => absurd hk (by simp), fun _ _ => rfl, fun t row h => ⟨row, h, rfl⟩, fun t row _ h => ⟨row, h, rfl⟩, fun _ _ _ => rfl, fun _ _ _ => .inl rfl⟩
  | cons x xs ih =>
    intro vs st ph h hb hl hx hp
    cases vs with
    | nil => simp at hl
    | cons v vs =>
      unfold pushAll at hp
      split at hp
      · cases hp
      · rename_i hdist
        split at hp
        · rename_i st1 hp1
          obtain ⟨ph1, q, hq⟩ := push_sound h hb (hx 0 (by simp) (by simp)) hp1
          have hl' : vs.length = xs.length := by simpa using hl
          obtain ⟨ph2, q2⟩ := ih vs st1 ph1 q.rel (by rw [q.len]; exact q.loose) hl' (fun k hk hk2 => by
            have := hx (k + 1) (by simp; omega) (by simp; omega)
            refine hq _ _ (fun t o hc => ?_) (by simpa using this)
            have hc : cellOf x = some (t, o) := hc
            cases hoc : ofCell t o xs[k] with
            | false => rfl
            | true =>
              unfold clash at hdist
              rw [hc] at hdist
              exact absurd (List.any_eq_true.2 ⟨_, List.getElem_mem hk, hoc⟩) hdist) hp
          have e1 : (st1.r.getD st.s.length .none).row.length = (st.r.getD st.s.length .none).row.length + 1 := by
            obtain ⟨rcs, r1, r2⟩ := q.row
            rw [r2, List.length_append, r1]; rfl
          refine ⟨ph2, q2.rel, q2.len.trans q.len, ?_, ?_, ?_, ?_, ?_, ?_, fun t o hne => (q2.phs t o (by rw [q.len]; exact hne)).trans (q.phs t o hne), fun t o hne => ?_⟩
          · obtain ⟨rcs, r1, r2⟩ := q.row
            obtain ⟨rcs2, r3, r4⟩ := q2.row
            rw [q.len] at r4
            exact ⟨rcs ++ rcs2, by simp [r1, r3]; omega, by rw [r4, r2, List.append_assoc]⟩
          · have := q2.loose; rw [q.len] at this; exact this
          · intro k hk
            cases k with
            | zero =>
              have h1 := q2.old (st.r.getD st.s.length .none).row.length
              rw [q.len] at h1
              have h2 := q.vals 0 (by simp)
              simp only [Nat.add_zero] at h2 ⊢
              rw [h1 (by omega), h2]
              rfl
            | succ k =>
              have h1 := q2.vals k (by simpa using hk)
              rw [q.len, e1] at h1
              rw [show (st.r.getD st.s.length .none).row.length + (k + 1) = (st.r.getD st.s.length .none).row.length + 1 + k by omega, h1]
              rfl
          · intro k hk
            have h1 := q2.old k
            rw [q.len] at h1
            rw [h1 (by omega), q.old k hk]
          · intro t row h1
            obtain ⟨row1, a1, b1⟩ := q.boxes t row h1
            obtain ⟨row2, a2, b2⟩ := q2.boxes t row1 a1
            exact ⟨row2, a2, by omega⟩
          · intro t row hne h1
            obtain ⟨row1, a1, b1⟩ := q2.back t row (by rw [q.len]; exact hne) h1
            obtain ⟨row2, a2, b2⟩ := q.back t row1 hne a1
            exact ⟨row2, a2, by omega⟩
          · rcases q2.same t o (by rw [q.len]; exact hne) with h1 | h1
            · rw [h1]; exact q.same t o hne
            · exact .inr h1
        · cases hp
end Go.Proofs.Ytcpcghnpoekhpaa.A
/- The ghost machine, part 7: freezing and naming are sound. -/
set_option linter.unusedSimpArgs false
set_option linter.unusedVariables false
set_option maxRecDepth 100000
set_option maxHeartbeats 4000000
namespace Go.Proofs.Ytcpcghnpoekhpaa.A
open Go
variable {P : Program} {T : TT} {w w0 : World} {S S0 : Nat → Prop} {F : Fr} {bx : Nat → Nat} {ph : Nat → Nat → Pv} {a : Act} {st st' : St}
theorem owns_setst {r : List Root} {t o u : Nat} {κ : Option Nat} {b : Nat} {c : C} (h : owns (setCellR r t o (.st c)) bx ph u κ b) : owns r bx ph u κ b ∧ ¬ (u = t ∧ κ = some o) := by
 cases κ with
 | none =>
  obtain ⟨row, h1, rfl⟩ := owns_box h
  rw [getD_setCell] at h1
  refine ⟨?_, by simp⟩
  split at h1
  ·rename_i e; subst e
   cases hR : r.getD t .none with
   | box row' => exact owns_of_box hR
   | none => rw [hR] at h1; cases h1
   | loose row' => rw [hR] at h1; cases h1
  ·exact owns_of_box h1
 | some p =>
  obtain ⟨rc, h1, h2⟩ := owns_cell h
  rw [row_setCell] at h1
  split at h1
  ·rename_i e; subst e
   rw [List.getElem?_set] at h1
   split at h1
   ·split at h1 <;> cases h1
    cases h2
   ·rename_i hne
    refine ⟨own_blk h1 h2, fun hh => hne ?_⟩
    have := hh.2; simp at this; exact this.symm
  ·rename_i hne
   exact ⟨own_blk h1 h2, fun hh => hne hh.1.symm⟩
theorem RCRep.still {e : TypeId} {n : Nat} {cells : List C} {pv : Pv} (h : RCRep T w S pv (.own e n cells)) : CRep w (fun b => S b ∨ pv.v.ownBlock = some b) pv.v (.sl n cells) := by
 obtain ⟨xs, h1, h2, h3⟩ := h
 generalize pv.v = v at h1 ⊢
 rcases h1.2 with ⟨rfl, rfl⟩ | ⟨g, cap, cur, rfl, hB, hheap, hn, hc, hs, ht⟩
 ·have : cells = [] := List.eq_nil_of_length_eq_zero (by rw [← h2, h1.1]; simp)
  subst this
  exact .sl0
 ·have h3' : ∀ k (hk : k < cells.length), CRep w (fun b => S b ∨ (Value.slice (some ⟨g, 0, none⟩) n cap).ownBlock = some b) (xs.getD k undef) cells[k] := fun k hk => by
   have hk2 : k < xs.length := by omega
   rw [List.getD_eq_getElem?_getD, List.getElem?_eq_getElem hk2]
   exact (h3 k hk hk2).frame (fun _ _ => rfl) (fun _ h => .inl h)
  refine .sl (fun k => xs.getD k undef) (.inr rfl) hn (fun k hk => ?_) h3'
  have hk2 : k < xs.length := by omega
  rw [Nat.zero_add, List.getD_eq_getElem?_getD, List.getElem?_eq_getElem hk2]
  have hcur : cur[k]? = some xs[k] := by
   have h5 : (cur.toList.take (n * szOf T e))[k]? = some xs[k] := by rw [ht, List.getElem?_eq_getElem hk2]
   rw [List.getElem?_take] at h5
   split at h5
   ·simpa using h5
   ·cases h5
  simp [World.cell?, hheap, hcur]
theorem extC_get {cells : List C} {lo hi k : Nat} (h : k < (extC cells lo hi).length) : ∃ h2 : lo + k < cells.length, (extC cells lo hi)[k] = cells[lo + k] := by
 have h' : lo + k < cells.length := by simp [extC] at h; omega
 exact ⟨h', by simp [extC]⟩
theorem crep_sub {n : Nat} {cells : List C} {S' : Nat → Prop} {aa a' : Option Addr} {cap cap' lo hi sz : Nat} (h : CRep w S' (.slice aa n cap) (.sl n cells))
  (h1 : hi ≤ n) (hcap : hi - lo ≤ cap') (hsz : lo < hi → ∃ b off, aa = some ⟨b, off, none⟩ ∧ a' = some ⟨b, off + lo * sz, none⟩) :
  CRep w S' (.slice a' (hi - lo) cap') (.sl (hi - lo) (extC cells (lo * sz) (hi * sz))) := by
 by_cases hlt : lo < hi
 ·obtain ⟨g, off, rfl, rfl⟩ := hsz hlt
  cases h with
  | sl0 => omega
  | sl vs hS hn hc hr =>
   refine .sl (fun k => vs (lo * sz + k)) hS hcap (fun k hk => ?_) (fun k hk => ?_)
   ·obtain ⟨h2, _⟩ := extC_get hk
    rw [Nat.add_assoc]; exact hc _ h2
   ·obtain ⟨h2, h3⟩ := extC_get hk
    rw [h3]; exact hr _ h2
 ·have e : hi - lo = 0 := by omega
  have e2 : extC cells (lo * sz) (hi * sz) = [] := by
   have : hi * sz ≤ lo * sz := Nat.mul_le_mul_right _ (by omega)
   apply List.eq_nil_of_length_eq_zero
   simp [extC]; omega
  rw [e, e2]
  exact .sl0
theorem hcapof {n : Nat} {cells : List C} {S' : Nat → Prop} {aa : Option Addr} {cap lo hi : Nat} (h : CRep w S' (.slice aa n cap) (.sl n cells)) (h1 : hi ≤ n) : hi - lo ≤ cap - lo := by
 cases h with
 | sl0 => omega
 | sl vs hS hn hc hr => omega
def RC.frz : RC → Option C
 | .own _ n cells => some (.sl n cells)
 | .map kk m => some (.map kk m.ks m.vs)
 | .tree _ c none => some (.sl (gn c) (gc c))
 | _ => none
theorem RCRep.stillC {rc : RC} {c : C} {v : Pv} (h : RCRep T w S v rc) (hc : rc.frz = some c) : CRep w (fun b => S b ∨ rc.blk v b) v.v c := by
 cases rc with
 | st => cases hc
 | dead => cases hc
 | me f => cases hc
 | own e n cells => cases hc; exact RCRep.still h
 | map kk m =>
  cases hc
  obtain ⟨b, hv, es, h1, h2, h3, h4, h5⟩ := h
  have hbk : ownB v.v = some b := by rw [hv]; rfl
  rw [hv]
  have hl : es.size = m.ks.length := by rw [← h2]; simp
  refine .map (fun i => (es.getD i default).val) (.inr hbk) h1 h2 m.l1 (fun i hi => by simp [hi]) (fun i hi => ?_) h5
  have hi2 : i < es.size := by rw [hl, ← m.l1]; exact hi
  have := (h4 i hi2 hi).frame (w' := w) (S' := fun b' => S b' ∨ RC.blk (.map kk m) v b') (fun _ _ => rfl) (fun _ h => .inl h)
  simpa [hi2] using this
 | tree sh c' hp =>
  cases hp with
  | some p => cases hc
  | none =>
   cases hc
   obtain ⟨h1, _, ⟨e, ks, rfl⟩, _⟩ := h
   exact CRepT.stillN h1
def Frz (r r' : List Root) : Prop := ∀ t o : Nat, (r'.getD t .none).row[o]? = (r.getD t .none).row[o]? ∨ ∃ rc c, (r.getD t .none).row[o]? = some rc ∧ rc.frz = some c ∧ (r'.getD t .none).row[o]? = some (RC.st c)
structure Frozen (T : TT) (w0 : World) (S0 : Nat → Prop) (F : Fr) (st st' : St) (a : Act) (w : World) (S S' : Nat → Prop) (bx : Nat → Nat) (ph : Nat → Nat → Pv) : Prop where
 rel : Rel T w0 S0 F st' a w S' bx ph
 len : st'.s.length = st.s.length
 keep : ∀ b, S b → S' b
 frz : Frz st.r st'.r
 boxes : ∀ t row, st.r.getD t .none = .box row → ∃ row', st'.r.getD t .none = .box row' ∧ row'.length = row.length
 back : ∀ t row, st'.r.getD t .none = .box row → ∃ row', st.r.getD t .none = .box row' ∧ row'.length = row.length
 spare : ∀ t, st.r.getD t .none = .none → st'.r.getD t .none = .none
theorem Frozen.refl (h : Rel T w0 S0 F st a w S bx ph) : Frozen T w0 S0 F st st a w S S bx ph :=
 ⟨h, rfl, fun _ h => h, fun _ _ => .inl rfl, fun t row h => ⟨row, h, rfl⟩, fun t row h => ⟨row, h, rfl⟩, fun _ h => h⟩
theorem Frozen.trans {st2 : St} {S2 S3 : Nat → Prop} (h : Frozen T w0 S0 F st st' a w S S2 bx ph) (k : Frozen T w0 S0 F st' st2 a w S2 S3 bx ph) : Frozen T w0 S0 F st st2 a w S S3 bx ph := by
 refine ⟨k.rel, k.len.trans h.len, fun b hb => k.keep b (h.keep b hb), fun t o => ?_, fun t row h1 => ?_, fun t row h1 => ?_, fun t h1 => k.spare t (h.spare t h1)⟩
 ·rcases h.frz t o with h1 | ⟨rc, c, h1, h1c, h2⟩
  ·rcases k.frz t o with h3 | ⟨rc, c, h3, h3c, h4⟩
   ·exact .inl (h3.trans h1)
   ·exact .inr ⟨rc, c, h1 ▸ h3, h3c, h4⟩
  ·rcases k.frz t o with h3 | ⟨rc', c', h3, h3c, h4⟩
   ·exact .inr ⟨rc, c, h1, h1c, h3.trans h2⟩
   ·rw [h2] at h3; cases h3; cases h3c
 ·obtain ⟨row1, a1, b1⟩ := h.boxes t row h1
  obtain ⟨row2, a2, b2⟩ := k.boxes t row1 a1
  exact ⟨row2, a2, by omega⟩
 ·obtain ⟨row1, a1, b1⟩ := k.back t row h1
  obtain ⟨row2, a2, b2⟩ := h.back t row1 a1
  exact ⟨row2, a2, by omega⟩
theorem ofCell_cases {t o : Nat} {y : X} (h : ofCell t o y = true) : y = .view t o ∨ (∃ lo hi, y = .sub t o lo hi) ∨ (∃ k, y = .eptr t o k) ∨ y = .mv t o ∨ (∃ p, y = .tv t o p) ∨ ∃ p k off, y = .tp t o p k off := by
 cases y <;> simp [ofCell] at h
 ·exact .inl (by rw [h.1, h.2])
 ·exact .inr (.inr (.inr (.inl (by rw [h.1, h.2]))))
 ·exact .inr (.inl ⟨_, _, by rw [h.1, h.2]⟩)
 ·exact .inr (.inr (.inl ⟨_, by rw [h.1, h.2]⟩))
 ·exact .inr (.inr (.inr (.inr (.inl ⟨_, by rw [h.1, h.2]⟩))))
 ·exact .inr (.inr (.inr (.inr (.inr ⟨_, _, _, by rw [h.1, h.2]⟩))))
theorem freeze_gen (h : Rel T w0 S0 F st a w S bx ph) {t o : Nat} {rc : RC} {c : C} (hc : (st.r.getD t .none).row[o]? = some rc) (hz : rc.frz = some c) (g : X → X) (hg0 : ∀ y, ofCell t o y = false → g y = y)
  (hg1 : ∀ u y, ofCell t o y = true → XRep T w S st.r bx ph u y → XRep T w (fun b => S b ∨ rc.blk (ph t o) b) (setCellR st.r t o (.st c)) bx ph u (g y)) :
  ∃ S', Frozen T w0 S0 F st { s := st.s.map (mapV g), r := setCellR st.r t o (.st c) } a w S S' bx ph ∧ (((setCellR st.r t o (.st c)).getD t .none).row[o]? = some (.st c)) := by
 have hrc := h.heap.cell hc
 have hcr := hrc.stillC hz
 have hin : o < (st.r.getD t .none).row.length := (List.getElem?_eq_some_iff.1 hc).1
 have hnew : ∀ b, rc.blk (ph t o) b → owns st.r bx ph t (some o) b := fun b hb => own_blk hc hb
 have hS' : ∀ u κ b, owns (setCellR st.r t o (.st c)) bx ph u κ b → ¬ (S b ∨ rc.blk (ph t o) b) := fun u κ b hb hs => by
  obtain ⟨h1, h2⟩ := owns_setst hb
  rcases hs with hs | hs
  ·exact (h.heap.free u κ b h1).1 hs
  ·exact h2 (h.heap.inj _ _ _ _ b h1 (hnew b hs))
 have hroot : ∀ u, RootRep T w (fun b => S b ∨ rc.blk (ph t o) b) (bx u) (ph u) (st.r.getD u .none) := fun u => by
  have hr := h.heap.root u
  cases hR : st.r.getD u .none with
  | none => trivial
  | box row =>
   rw [hR] at hr
   exact ⟨hr.1, fun o ho => (hr.2.1 o ho).frame (fun _ _ => rfl) (fun _ h => .inl h) (fun _ _ => rfl), hr.2.2⟩
  | loose row =>
   rw [hR] at hr
   exact fun o ho => (hr o ho).frame (fun _ _ => rfl) (fun _ h => .inl h) (fun _ _ => rfl)
 have hheap : Heap T w (fun b => S b ∨ rc.blk (ph t o) b) (setCellR st.r t o (.st c)) bx ph := by
  refine ⟨fun u => ?_, fun u κ u' κ' b h1 h2 => h.heap.inj u κ u' κ' b (owns_setst h1).1 (owns_setst h2).1, fun u κ b h1 => ⟨hS' u κ b h1, (h.heap.free u κ b (owns_setst h1).1).2⟩, ⟨fun b hb => ?_, h.heap.low.2.frame (fun _ _ => rfl) (fun _ h => .inl h)⟩⟩
  ·rw [getD_setCell]; split
   ·rename_i e; subst e; exact (hroot t).setCell (fun _ => hcr) rfl
   ·exact hroot u
  ·rcases hb with hb | hb
   ·exact h.heap.low.1 b hb
   ·exact (h.heap.free t (some o) b (hnew b hb)).2
 refine ⟨fun b => S b ∨ rc.blk (ph t o) b, ⟨?_, by simp, fun _ h => .inl h, fun u p => ?_, fun u row h1 => box_setCell h1, fun u row h1 => ?_, fun u h1 => ?_⟩, ?_⟩
 ·refine h.ghost g rfl (by simp [length_setCell]) hheap (fun u κ b hb => ⟨u, κ, (owns_setst hb).1⟩) (fun u y hu => ?_) (fun _ h => .inl h) (fun b hb => ?_)
  ·cases hoc : ofCell t o y with
   | true => exact hg1 u y hoc hu
   | false =>
    rw [hg0 y hoc]
    refine (hu.frame (w' := w) (fun _ _ => rfl) (fun _ h => .inl h)).congr (fun t' o' rc' ho' _ hc' => ⟨?_, rfl⟩) (fun t' o' _ row h1 h2 => ?_) (fun f caps _ t' _ row h1 => ?_)
    ·rw [row_setCell]
     split
     ·rename_i e; subst e
      rw [List.getElem?_set]
      split
      ·rename_i e; subst e; rw [ho'] at hoc; cases hoc
      ·exact hc'
     ·exact hc'
    ·obtain ⟨row', q1, q2⟩ := box_setCell (t := t) (o := o) (rc := .st c) h1
     exact ⟨row', q1, by omega, rfl⟩
    ·obtain ⟨row', q1, q2⟩ := box_setCell (t := t) (o := o) (rc := .st c) h1
     exact ⟨row', q1, q2, rfl⟩
  ·rcases hb with hb | hb
   ·exact .inl hb
   ·exact .inr ⟨t, some o, hnew b hb⟩
 ·rw [row_setCell]
  split
  ·rename_i e1; subst e1
   rw [List.getElem?_set]
   split
   ·rename_i e2; subst e2
    exact .inr ⟨rc, c, hc, hz, by simp [hin]⟩
   ·exact .inl rfl
  ·exact .inl rfl
 ·rw [getD_setCell] at h1
  split at h1
  ·rename_i e1; subst e1
   cases hR : st.r.getD t .none with
   | none => rw [hR] at h1; cases h1
   | loose row' => rw [hR] at h1; cases h1
   | box row' => rw [hR] at h1; cases h1; exact ⟨row', rfl, by simp [Root.row]⟩
  ·exact ⟨row, h1, rfl⟩
 ·rw [getD_setCell]
  split
  ·rename_i e1; subst e1; rw [h1]; rfl
  ·exact h1
 ·rw [row_setCell, if_pos rfl, List.getElem?_set, if_pos rfl, if_pos hin]
theorem freeze_sound (h : Rel T w0 S0 F st a w S bx ph) (t o : Nat) : ∃ S', Frozen T w0 S0 F st (freeze T (std P T) st t o) a w S S' bx ph ∧
    (∀ rc c, (st.r.getD t .none).row[o]? = some rc → rc.frz = some c → ((freeze T (std P T) st t o).r.getD t .none).row[o]? = some (.st c)) := by
  unfold freeze
  cases ho : ownAt st.r t o with
  | none =>
    dsimp only
    cases hm : mapAt st.r t o with
    | none =>
      dsimp only
      cases ht : treeAt st.r t o with
      | none =>
        refine ⟨S, Frozen.refl h, fun rc c hc hz => ?_⟩
        cases rc with
        | st => cases hz
        | dead => cases hz
        | me f => cases hz
        | own e n cells => simp only [ownAt, rootOf, hc] at ho; cases ho
        | map kk m => simp only [mapAt, rootOf, hc] at hm; cases hm
        | tree sh c hp => simp only [treeAt, rootOf, hc] at ht; cases ht
      | some x =>
        obtain ⟨sh, c, hp⟩ := x
        have hc := treeAt_eq ht
        cases hp with
        | some p =>
          refine ⟨S, Frozen.refl h, fun rc c hc' hz => ?_⟩
          rw [hc] at hc'; cases hc'; cases hz
        | none =>
          dsimp only
          rw [slJ_std]
          obtain ⟨S', q1, q2⟩ := freeze_gen h hc rfl (frzT (std P T) t o c) (fun y hy => by unfold frzT; rw [hy]; rfl) (fun u y hy hu => by
            unfold frzT
            rw [hy]
            rcases ofCell_cases hy with rfl | ⟨lo, hi, rfl⟩ | ⟨k, rfl⟩ | rfl | ⟨p, rfl⟩ | ⟨p, k, off, rfl⟩ <;> simp only [if_true]
            · trivial
            · trivial
            · trivial
            · trivial
            · obtain ⟨sh', c', hp', q, k1, k2, k3, ⟨e, ks, k4⟩, k5, rfl⟩ := hu
              rw [hc] at k1; cases k1
              obtain ⟨t1, t2, _, _⟩ := h.heap.cell hc
              obtain ⟨hp2, u2, g1, g2, _⟩ := CRepT.get p t1 k2 k3
              have g3 := g2 rfl
              subst g3
              rw [k4] at g1
              have g4 := g1.stillN
              rw [g1.val] at g4
              rw [slJ_std, atJ_std]
              exact g4.frame (w' := w) (fun _ _ => rfl) (fun b hb => hb.imp id fun hb => Pv.get_blks p k2 b hb)
            · trivial)
          refine ⟨S', q1, fun rc c hc' hz => ?_⟩
          rw [hc] at hc'; cases hc'; cases hz
          exact q2
    | some x =>
      obtain ⟨kk, m⟩ := x
      have hc := mapAt_eq hm
      dsimp only
      obtain ⟨S', q1, q2⟩ := freeze_gen h hc rfl (frzM t o kk m) (fun y hy => by unfold frzM; rw [hy]; rfl) (fun u y hy hu => by
        unfold frzM
        rw [hy]
        rcases ofCell_cases hy with rfl | ⟨lo, hi, rfl⟩ | ⟨k, rfl⟩ | rfl | ⟨p, rfl⟩ | ⟨p, k, off, rfl⟩ <;> simp only [if_true]
        · trivial
        · trivial
        · trivial
        · obtain ⟨kk', m', h1, h2⟩ := hu
          rw [h2]; exact (h.heap.cell hc).stillC rfl
        · trivial
        · trivial)
      refine ⟨S', q1, fun rc c hc' hz => ?_⟩
      rw [hc] at hc'; cases hc'; cases hz
      exact q2
  | some x =>
    obtain ⟨e, n, cells⟩ := x
    have hc := ownAt_eq ho
    have hcr := (h.heap.cell hc).stillC rfl
    dsimp only
    obtain ⟨S', q1, q2⟩ := freeze_gen h hc rfl (frzX (std P T) (szOf T e) t o n cells) (fun y hy => by unfold frzX; rw [hy]; rfl) (fun u y hy hu => by
      unfold frzX
      rw [if_pos hy]
      rcases ofCell_cases hy with rfl | ⟨lo, hi, rfl⟩ | ⟨k, rfl⟩ | rfl | ⟨p, rfl⟩ | ⟨p, k, off, rfl⟩
      · obtain ⟨e', n', cells', h1, h2⟩ := hu
        rw [h2]; exact hcr
      · obtain ⟨e', n', cells', aa, cap, a', h1, h2, h3, h4, h5, h6, h7⟩ := hu
        rw [hc] at h1; cases h1
        have hcr' := hcr
        rw [h2] at hcr'
        dsimp only
        rw [mulSz_std, mulSz_std, h5]
        have := crep_sub (w := w) (a' := a') (cap' := cap - lo) (lo := lo) (hi := hi) (sz := szOf T e) hcr' h4 (hcapof hcr' h4) (fun hlt => by
          obtain ⟨g, g1, g2⟩ := h7 hlt
          exact ⟨g, 0, g1, by rw [g2, Nat.zero_add]⟩)
        have e1 : (if lo = 0 then hi else (std P T).sub hi lo) = hi - lo := by
          split
          · omega
          · rfl
        rw [e1]
        exact this.frame (w' := w) (fun _ _ => rfl) (fun b hb => hb)
      · obtain ⟨e', n', cells', g, cap, h1, h2, h3⟩ := hu
        rw [hc] at h1; cases h1
        have hcr' := hcr
        rw [h2] at hcr'
        cases hcr' with
        | sl0 => exact ⟨g, 0, fun _ => undef, by rw [h3, Nat.zero_add], .inr (by show (ph t o).v.ownBlock = some g; rw [h2]; rfl), fun k hk => absurd hk (by simp), fun k hk => absurd hk (by simp)⟩
        | sl vs q1 q0 q2 q3 =>
          refine ⟨g, 0, vs, by rw [h3, Nat.zero_add], .inr (by show (ph t o).v.ownBlock = some g; rw [h2]; rfl), q2, fun k hk => ?_⟩
          exact (q3 k hk).frame (fun _ _ => rfl) (fun b hb => hb)
      · obtain ⟨kk', m', h1, h2⟩ := hu
        rw [hc] at h1; cases h1
      · obtain ⟨_, _, _, _, h1, _⟩ := hu
        rw [hc] at h1; cases h1
      · obtain ⟨_, _, _, _, _, _, _, _, _, h1, _⟩ := hu
        rw [hc] at h1; cases h1)
    refine ⟨S', q1, fun rc c hc' hz => ?_⟩
    rw [hc] at hc'; cases hc'; cases hz
    exact q2
theorem stab_frozen {r r' : List Root} {S' : Nat → Prop} {u : Value} {y : X} {c : C} (h0 : Heap T w S r bx ph) (h : Heap T w S' r' bx ph) (hk : ∀ b, S b → S' b) (hu : XRep T w S r bx ph u y) (hs : stab T (std P T) r y = some c)
    (hf : ∀ t o, cellOf y = some (t, o) → ∀ rc c, (r.getD t .none).row[o]? = some rc → rc.frz = some c → (r'.getD t .none).row[o]? = some (.st c)) : CRep w S' u c := by
  cases y with
  | c c' => simp only [stab, Option.some.injEq] at hs; subst hs; exact CRep.frame hu (fun _ _ => rfl) hk
  | view t o =>
    obtain ⟨e, n, cells, h1, h2⟩ := hu
    simp only [stab, rootOf, h1, Option.some.injEq] at hs
    subst hs; rw [h2]
    exact h.cell (hf t o rfl _ _ h1 rfl)
  | sub t o lo hi =>
    obtain ⟨e, n, cells, aa, cap, a', h1, h2, h3, h4, h5, h6, h7⟩ := hu
    simp only [stab, rootOf, h1, Option.some.injEq, mulSz_std] at hs
    subst hs
    have hcr : CRep w S' (ph t o) (.sl n cells) := h.cell (hf t o rfl _ _ h1 rfl)
    rw [h2] at hcr
    have e1 : (if lo = 0 then hi else (std P T).sub hi lo) = hi - lo := by
      split
      · omega
      · rfl
    rw [e1, h5]
    exact crep_sub hcr h4 (hcapof hcr h4) (fun hlt => by
      obtain ⟨g, g1, g2⟩ := h7 hlt
      exact ⟨g, 0, g1, by rw [g2, Nat.zero_add]⟩)
  | mv t o =>
    obtain ⟨kk, m, h1, h2⟩ := hu
    simp only [stab, rootOf, h1, Option.some.injEq] at hs
    subst hs; rw [h2]
    exact h.cell (hf t o rfl _ _ h1 rfl)
  | ptr t o => cases hs
  | eptr t o k => cases hs
  | tp t o p k off => cases hs
  | tv t o p =>
    obtain ⟨sh, c', hp, q, h1, h2, h3, h4, h5, rfl⟩ := hu
    simp only [stab, treeAt, rootOf, h1] at hs
    cases hp with
    | some hp => cases hs
    | none =>
      simp only [Option.some.injEq] at hs
      subst hs
      rw [slJ_std, atJ_std]
      obtain ⟨t1, _, _, _⟩ := h0.cell h1
      have hcr : CRep w S' (ph t o).v (.sl (gn c') (gc c')) := h.cell (hf t o rfl _ _ h1 rfl)
      exact t1.down p hcr h2 h3 h4
  | mem cells off =>
    simp only [stab, Option.some.injEq] at hs
    subst hs
    obtain ⟨b, base, vs, h1, h2, h3, h4⟩ := hu
    rw [h1]
    exact .mem vs (hk _ h2) h3 (fun k hk' => (h4 k hk').frame (fun _ _ => rfl) hk)
  | fn f caps => cases hs
  | bfn f t => cases hs
  | undef => cases hs
theorem freezeX_sound (h : Rel T w0 S0 F st a w S bx ph) (x : X) : ∃ S', Frozen T w0 S0 F st (freezeX T (std P T) st x) a w S S' bx ph ∧
  (∀ t o, cellOf x = some (t, o) → ∀ rc c, (st.r.getD t .none).row[o]? = some rc → rc.frz = some c → ((freezeX T (std P T) st x).r.getD t .none).row[o]? = some (.st c)) := by
 cases x with
 | view t o =>
  obtain ⟨S', h1, h2⟩ := freeze_sound (P := P) h t o
  exact ⟨S', h1, fun t' o' he => by cases he; exact h2⟩
 | sub t o lo hi =>
  obtain ⟨S', h1, h2⟩ := freeze_sound (P := P) h t o
  exact ⟨S', h1, fun t' o' he => by cases he; exact h2⟩
 | tv t o p =>
  obtain ⟨S', h1, h2⟩ := freeze_sound (P := P) h t o
  exact ⟨S', h1, fun t' o' he => by cases he; exact h2⟩
 | tp t o p k off => exact ⟨S, Frozen.refl h, fun t o he => by cases he⟩
 | mv t o =>
  obtain ⟨S', h1, h2⟩ := freeze_sound (P := P) h t o
  exact ⟨S', h1, fun t' o' he => by cases he; exact h2⟩
 | c c => exact ⟨S, Frozen.refl h, fun t o he => by cases he⟩
 | ptr t o => exact ⟨S, Frozen.refl h, fun t o he => by cases he⟩
 | eptr t o k => exact ⟨S, Frozen.refl h, fun t o he => by cases he⟩
 | mem cells off => exact ⟨S, Frozen.refl h, fun t o he => by cases he⟩
 | fn f caps => exact ⟨S, Frozen.refl h, fun t o he => by cases he⟩
 | bfn f t => exact ⟨S, Frozen.refl h, fun t o he => by cases he⟩
 | undef => exact ⟨S, Frozen.refl h, fun t o he => by cases he⟩
theorem freezeAll_frz : ∀ (xs : List X) (st : St) (S : Nat → Prop), Rel T w0 S0 F st a w S bx ph → ∃ S', Frozen T w0 S0 F st (xs.foldl (freezeX T (std P T)) st) a w S S' bx ph ∧
  ∀ y ∈ xs, ∀ t o, cellOf y = some (t, o) → ∀ rc c, (st.r.getD t .none).row[o]? = some rc → rc.frz = some c → ((xs.foldl (freezeX T (std P T)) st).r.getD t .none).row[o]? = some (.st c) := by
 intro xs
 induction xs with
 | nil => intro st S h; exact ⟨S, Frozen.refl h, fun y hy => absurd hy (by simp)⟩
 | cons x xs ih =>
  intro st S h
  obtain ⟨S1, h1, h2⟩ := freezeX_sound (P := P) h x
  obtain ⟨S2, h3, h4⟩ := ih _ S1 h1.rel
  refine ⟨S2, h1.trans h3, fun y hy t o hc rc c hr hz => ?_⟩
  have fin : ((freezeX T (std P T) st x).r.getD t .none).row[o]? = some (.st c) → ((xs.foldl (freezeX T (std P T)) (freezeX T (std P T) st x)).r.getD t .none).row[o]? = some (.st c) := fun hh => by
   rcases h3.frz t o with h5 | ⟨rc', c', h5, h5c, h6⟩
   ·exact h5.trans hh
   ·rw [hh] at h5; cases h5; cases h5c
  rcases List.mem_cons.1 hy with rfl | hy
  ·exact fin (h2 t o hc rc c hr hz)
  ·rcases h1.frz t o with h5 | ⟨rc', c', h5, h5c, h6⟩
   ·exact h4 y hy t o hc rc c (h5.trans hr) hz
   ·rw [hr] at h5; cases h5; rw [hz] at h5c; cases h5c; exact fin h6
theorem freezeAll_sound (xs : List X) (h : Rel T w0 S0 F st a w S bx ph) : ∃ S', Frozen T w0 S0 F st (xs.foldl (freezeX T (std P T)) st) a w S S' bx ph ∧
  ∀ y ∈ xs, ∀ u c, XRep T w S st.r bx ph u y → stab T (std P T) st.r y = some c → CRep w S' u c := by
 obtain ⟨S', h1, h2⟩ := freezeAll_frz (P := P) xs st S h
 exact ⟨S', h1, fun y hy u c hu hs => stab_frozen h.heap h1.rel.heap h1.keep hu hs (h2 y hy)⟩
/-! ### naming the root of the moment -/
theorem name_rel (h : Rel T w0 S0 F st a w S bx ph) {d : Nat} (hd : d < st.s.length) :
  Rel T w0 S0 F (name st d) a w S (fun t => if t = d then bx st.s.length else bx t) (fun t => if t = d then ph st.s.length else ph t) ∧ (name st d).r.getD st.s.length .none = .none ∧ (name st d).r.getD d .none = st.r.getD st.s.length .none := by
 have hN : st.s.length < st.r.length := by have := h.rsize.1; omega
 have hg : ∀ u, (name st d).r.getD u .none = if u = st.s.length then .none else if u = d then st.r.getD st.s.length .none else st.r.getD u .none := fun u => by
  simp only [name, rootOf]
  rw [getD_set, getD_set]
  simp only [List.length_set]
  by_cases h1 : u = st.s.length
  ·subst h1; simp [hN]
  ·rw [if_neg (fun hh => h1 hh.1.symm), if_neg h1]
   by_cases h2 : u = d
   ·subst h2; rw [if_pos ⟨rfl, by omega⟩, if_pos rfl]
   ·rw [if_neg (fun hh => h2 hh.1.symm), if_neg h2]
 have hne : d ≠ st.s.length := by omega
 have hown : ∀ u κ b, owns (name st d).r (fun t => if t = d then bx st.s.length else bx t) (fun t => if t = d then ph st.s.length else ph t) u κ b →
   u ≠ st.s.length ∧ owns st.r bx ph (if u = d then st.s.length else u) κ b := fun u κ b hb => by
  by_cases h1 : u = st.s.length
  ·subst h1
   exact (owns_none _ _ _ (by rw [hg, if_pos rfl]) _ _ hb).elim
  ·refine ⟨h1, ?_⟩
   unfold owns at hb ⊢
   rw [hg, if_neg h1] at hb
   by_cases h2 : u = d
   ·subst h2; simp only [if_pos] at hb ⊢; exact hb
   ·simp only [if_neg h2] at hb ⊢; exact hb
 refine ⟨?_, by rw [hg, if_pos rfl], by rw [hg, if_neg hne, if_pos rfl]⟩
 refine h.ghost (fun x => if (ofRoot d x || ofRoot st.s.length x) = true then .undef else x) rfl (by simp [name]) ⟨fun u => ?_, fun u κ u' κ' b h1 h2 => ?_, fun u κ b h1 => h.heap.free _ _ b (hown u κ b h1).2, h.heap.low⟩
  (fun u κ b h1 => ⟨_, _, (hown u κ b h1).2⟩) (fun v x hx => ?_) (fun _ h => h) (fun _ h => .inl h) (fun t ht => if_neg (by omega))
 ·rw [hg]
  by_cases h1 : u = st.s.length
  ·rw [if_pos h1]; trivial
  ·rw [if_neg h1]
   by_cases h2 : u = d
   ·subst h2; simp only [if_pos]; exact h.heap.root _
   ·simp only [if_neg h2]; exact h.heap.root _
 ·obtain ⟨a1, a2⟩ := hown u κ b h1
  obtain ⟨b1, b2⟩ := hown u' κ' b h2
  obtain ⟨e1, e2⟩ := h.heap.inj _ _ _ _ b a2 b2
  refine ⟨?_, e2⟩
  split at e1 <;> split at e1
  ·omega
  ·exact absurd e1.symm b1
  ·exact absurd e1 a1
  ·exact e1
 ·split
  ·trivial
  ·rename_i hk
   have k1 : ofRoot d x = false := by
    cases hh : ofRoot d x with
    | false => rfl
    | true => rw [hh] at hk; simp at hk
   have k2 : ofRoot st.s.length x = false := by
    cases hh : ofRoot st.s.length x with
    | false => rfl
    | true => rw [hh] at hk; simp at hk
   have hcell : ∀ t o, ofCell t o x = true → t ≠ d ∧ t ≠ st.s.length := fun t o hc => by
    rcases ofCell_cases hc with rfl | ⟨lo, hi, rfl⟩ | ⟨k, rfl⟩ | rfl | ⟨p, rfl⟩ | ⟨p, k, off, rfl⟩ <;> (simp only [ofRoot, beq_eq_false_iff_ne] at k1 k2; exact ⟨k1, k2⟩)
   refine hx.congr (fun t o rc hc _ h1 => ?_) (fun t o he row h1 h2 => ?_) (fun f caps he t ht row h1 => ?_)
   ·obtain ⟨n1, n2⟩ := hcell t o hc
    refine ⟨?_, by simp only [if_neg n1]⟩
    rw [hg, if_neg n2, if_neg n1]; exact h1
   ·subst he
    simp only [ofRoot, beq_eq_false_iff_ne] at k1 k2
    refine ⟨row, ?_, h2, by simp only [if_neg k1]⟩
    rw [hg, if_neg k2, if_neg k1]; exact h1
   ·have n1 : t ≠ d := fun e => by subst e; rw [ofRoot_caps he ht] at k1; cases k1
    have n2 : t ≠ st.s.length := fun e => by subst e; rw [ofRoot_caps he ht] at k2; cases k2
    refine ⟨row, ?_, rfl, by simp only [if_neg n1]⟩
    rw [hg, if_neg n2, if_neg n1]; exact h1
end Go.Proofs.Ytcpcghnpoekhpaa.A
/- The ghost machine, part 8: the operations that make and change nothing are sound. -/
set_option linter.unusedSimpArgs false
set_option linter.unusedVariables false
set_option maxRecDepth 100000
set_option maxHeartbeats 4000000
namespace Go.Proofs.Ytcpcghnpoekhpaa.A
open Go Go.RowKit
variable {P : Program} {T : TT} {w w0 : World} {S S0 : Nat → Prop} {F : Fr} {bx : Nat → Nat} {ph : Nat → Nat → Pv} {a : Act} {st st' : St}
theorem crep_val {v u : Value} (h : CRep w S v (.val u)) : v = u ∧ plain u = true := by cases h with | val h => exact ⟨rfl, h⟩
theorem crep_nil {v : Value} (h : CRep w S v .nil) : v = .slice none 0 0 := by cases h; rfl
theorem plain_of_const {v : Value} (h : okConst v = true) : (v = .slice none 0 0 ∧ constC v = .nil) ∨ (plain v = true ∧ constC v = .val v) := by
 unfold okConst constC at *
 split at h
 ·exact .inl ⟨rfl, rfl⟩
 ·rename_i hn
  refine .inr ⟨h, ?_⟩
  rfl
theorem crep_const {v : Value} (h : okConst v = true) : CRep w S v (constC v) := by
 rcases plain_of_const h with ⟨h1, h2⟩ | ⟨h1, h2⟩
 ·rw [h2, h1]; exact .nil
 ·rw [h2]; exact .val h1
theorem const_sound {r : List Root} (v : Value) : VRep T w S r bx ph v (constV v) := by
 unfold constV
 split
 ·rename_i cs
  split
  ·rename_i h
   refine ⟨cs, rfl, by simp, fun k hk hk2 => ?_⟩
   simp only [List.getElem_map, Array.getElem_toList]
   have := List.all_eq_true.1 h cs[k] (by simp)
   exact crep_const this
  ·trivial
 ·split
  ·rename_i h; exact crep_const h
  ·trivial
theorem ev_sound (h : Rel T w0 S0 F st a w S bx ph) (x : Operand) : VRep T w S st.r bx ph (a.eval x) (ev st.s x) := by
 cases x with
 | tmp t =>
  show VRep T w S st.r bx ph (a.tmps.getD t undef) (st.s.getD t .undef)
  by_cases ht : t < st.s.length
  ·exact h.slot t ht
  ·have : st.s.getD t .undef = .undef := by rw [List.getD_eq_getElem?_getD, List.getElem?_eq_none (Nat.le_of_not_lt ht)]; rfl
   rw [this]; trivial
 | const v => exact const_sound v
 | global g => trivial
 | func f => exact ⟨rfl, fun t ht => by cases ht⟩
def Keep (S : Nat → Prop) (r : List Root) (bx : Nat → Nat) (ph : Nat → Nat → Pv) (w w' : World) : Prop :=
 (∀ b, S b → w'.heap[b]? = w.heap[b]?) ∧ ∀ t κ b, owns r bx ph t κ b → w'.heap[b]? = w.heap[b]?
theorem Keep.refl (S : Nat → Prop) (r : List Root) (bx : Nat → Nat) (ph : Nat → Nat → Pv) (w : World) : Keep S r bx ph w w := ⟨fun _ _ => rfl, fun _ _ _ _ => rfl⟩
theorem num_sound {r : List Root} {v : Value} {V : V} {i : Int} (h : VRep T w S r bx ph v V) (hi : num V = some i) : ∃ k, v = .int k i := by
 unfold num at hi
 split at hi
 ·cases hi; exact ⟨_, (crep_val h).1⟩
 ·cases hi
theorem desc_of (hT : TOk P T) {t : TypeId} {d : TypeDesc} (h : descOf T t = d) (hd : d ≠ .invalid) : P.underlying t = some d := by
 unfold descOf at h
 split at h
 ·rename_i ti hti
  rw [← h]; exact (hT t ti hti).1
 ·exact absurd h.symm hd
theorem bin_sound (hT : TOk P T) {r : List Root} {op : BinOp} {t : TypeId} {x y : Operand} {u v : Value} {U W V : V} {obl : List Prop} (hu : VRep T w S r bx ph u U) (hv : VRep T w S r bx ph v W)
    (hp : binV T (std P T) op t U W = some (V, obl)) (ho : ∀ p ∈ obl, p) :
    ∃ z, (∀ w' : World, (do eqGuard op t x y u v; binOp op t u v : Sem Value).run P w' = .ok z w') ∧ VRep T w S r bx ph z V := by
  unfold binV at hp
  split at hp
  · rename_i k a1 k' b1
    obtain ⟨rfl, _⟩ := crep_val hu
    obtain ⟨rfl, _⟩ := crep_val hv
    split at hp
    · simp only [Option.some.injEq, Prod.mk.injEq] at hp
      obtain ⟨rfl, rfl⟩ := hp
      refine ⟨_, fun w' => ?_, .val rfl⟩
      have h0 : (0 : Int) ≤ b1 := ho _ (List.mem_singleton.2 rfl)
      simp [eqGuard, binOp, Op.shift, show ¬ b1 < 0 by omega, std, arithI, go_sem]
    · simp only [Option.some.injEq, Prod.mk.injEq] at hp
      obtain ⟨rfl, rfl⟩ := hp
      refine ⟨_, fun w' => ?_, .val rfl⟩
      have h0 : (0 : Int) ≤ b1 := ho _ (List.mem_singleton.2 rfl)
      simp [eqGuard, binOp, Op.shift, show ¬ b1 < 0 by omega, std, arithI, go_sem]
    · split at hp
      · cases hp
      rename_i hk
      have hk : k = k' := by simpa using hk
      subst hk
      cases op <;> simp only [Option.some.injEq, Prod.mk.injEq, reduceCtorEq] at hp <;> obtain ⟨rfl, rfl⟩ := hp
      all_goals refine ⟨_, fun w' => ?_, .val rfl⟩
      all_goals first
        | (simp [eqGuard_at_int, binOp, Op.intArith, Op.intBits, Op.intCmp, std, arithI, cmpI, go_sem]; done)
        | (have h0 : b1 ≠ 0 := ho _ (List.mem_singleton.2 rfl)
           simp [eqGuard_at_int, binOp, Op.intDiv, h0, std, arithI, go_sem]; done)
  · rename_i a1 b1
    obtain ⟨rfl, _⟩ := crep_val hu
    obtain ⟨rfl, _⟩ := crep_val hv
    cases op <;> simp only [Option.some.injEq, Prod.mk.injEq, reduceCtorEq] at hp <;> obtain ⟨rfl, rfl⟩ := hp
    all_goals refine ⟨_, fun w' => ?_, .val rfl⟩
    all_goals first
        | (simp [eqGuard_at_string, binOp, Op.stringOp, std, cmpS, go_sem]; done)
        | (have h0 : a1.size + b1.size ≤ 9223372036854775807 := ho _ (List.mem_singleton.2 rfl)
           have h1 : ¬ ((a1.size + b1.size : Nat) : Int) > IntKind.i64.max := by
             have : IntKind.i64.max = 9223372036854775807 := by decide
             omega
           simp only [eqGuard_at_string, binOp, Op.stringOp]
           rw [if_neg h1]; rfl)
  · rename_i a1 b1
    obtain ⟨rfl, _⟩ := crep_val hu
    obtain ⟨rfl, _⟩ := crep_val hv
    split at hp
    all_goals first
      | (cases hp; done)
      | (rename_i hd
         simp only [Option.some.injEq, Prod.mk.injEq] at hp
         obtain ⟨rfl, rfl⟩ := hp
         have hb := desc_of hT hd (by simp)
         refine ⟨_, fun w' => ?_, .val rfl⟩
         rw [eqGuard_at_bool]
         first
           | exact run_eql_bool w' t a1 b1 hb
           | (refine (run_neq_bool w' t a1 b1 hb).trans ?_
              simp [std, cmpB, bne]))
  · cases hp
theorem un_sound {r : List Root} {op : UnOp} {u : Value} {U V : V} {obl : List Prop} (hu : VRep T w S r bx ph u U)
  (hp : unV (std P T) op U = some (V, obl)) : ∃ z, (∀ w' : World, (Op.unary op u).run P w' = .ok z w') ∧ VRep T w S r bx ph z V := by
 unfold unV at hp
 split at hp
 ·rename_i a1
  obtain ⟨rfl, _⟩ := crep_val hu
  cases op <;> simp only [Option.some.injEq, Prod.mk.injEq, reduceCtorEq] at hp <;> obtain ⟨rfl, rfl⟩ := hp
  exact ⟨_, fun w' => rfl, .val rfl⟩
 ·rename_i k a1
  obtain ⟨rfl, _⟩ := crep_val hu
  cases op <;> simp only [Option.some.injEq, Prod.mk.injEq, reduceCtorEq] at hp <;> obtain ⟨rfl, rfl⟩ := hp
  exact ⟨_, fun w' => rfl, .val rfl⟩
 ·cases hp
theorem crep_sl {v : Value} {n : Nat} {cells : List C} (h : CRep w S v (.sl n cells)) : ∃ a cap, v = .slice a n cap := by
 cases h with
 | sl0 => exact ⟨_, _, rfl⟩
 | sl vs _ _ _ _ => exact ⟨_, _, rfl⟩
theorem conv_bytes (hT : TOk P T) {a : Addr} {n cap : Nat} {cells : List C} {w' : World} {src dst e : TypeId} (us : Nat → Value) (hb : isBytesC cells) (hl : cells.length = n)
    (hc : ∀ k, k < n → w'.cell? (a.add k) = some (us k)) (hr : ∀ k (h : k < cells.length), CRep w S (us k) cells[k])
    (hs : P.underlying src = some (.slice e)) (he : P.underlying e = some (.int .u8)) (hd : P.underlying dst = some .string) :
    (convert src dst (.slice (some a) n cap)).run P w' = .ok (.string (bytesC cells)) w' := by
  have := run_convert_bytes_back (P := P) w' src dst e a cap (cells.map fun c => UInt8.ofNat (gi c).toNat) hs he hd (fun k hk => by
    have hk' : k < cells.length := by simpa using hk
    rw [hc k (by omega)]
    obtain ⟨b, hb'⟩ := hb _ (List.getElem_mem hk')
    have h1 := hr k hk'
    rw [hb'] at h1
    rw [(crep_val h1).1]
    simp [hb', gi])
  rw [List.length_map, hl] at this
  exact this
theorem own_cells {r : List Root} {t o n : Nat} {e : TypeId} {cells : List C} {w' : World} (h : Heap T w S r bx ph) (hc : (r.getD t .none).row[o]? = some (.own e n cells)) (hk : Keep S r bx ph w w') :
  RCRep T w' S (ph t o) (.own e n cells) := by
 refine (h.cell hc).frame hk.1 (fun _ h => h) (fun b hb => hk.2 t (some o) b (own_blk hc hb))
theorem own_form {v : Pv} {e : TypeId} {n : Nat} {cells : List C} (h : RCRep T w S v (.own e n cells)) : (v.v = .slice none 0 0 ∧ n = 0 ∧ cells = []) ∨
  ∃ g cap, v.v = .slice (some ⟨g, 0, none⟩) n cap ∧ n ≤ cap ∧ cap ≤ maxLen ∧ cells.length = n * szOf T e ∧ ∃ us : Nat → Value, (∀ k, k < cells.length → w.cell? ⟨g, k, none⟩ = some (us k)) ∧ ∀ k (hk : k < cells.length), CRep w S (us k) cells[k] := by
 obtain ⟨xs, h1, h2, h3⟩ := h
 generalize v.v = v at h1 ⊢
 rcases h1.2 with ⟨rfl, rfl⟩ | ⟨g, cap, cur, rfl, hB, hheap, hn, hc, hs, ht⟩
 ·exact .inl ⟨rfl, rfl, List.eq_nil_of_length_eq_zero (by rw [← h2, h1.1]; simp)⟩
 ·refine .inr ⟨g, cap, rfl, hn, hc, by rw [← h2, h1.1], fun k => xs.getD k undef, fun k hk => ?_, fun k hk => ?_⟩
  ·have hk2 : k < xs.length := by omega
   have h5 : (cur.toList.take (n * szOf T e))[k]? = some xs[k] := by rw [ht, List.getElem?_eq_getElem hk2]
   rw [List.getElem?_take] at h5
   have hcur : cur[k]? = some xs[k] := by
    split at h5
    ·simpa using h5
    ·cases h5
   show _ = some (xs.getD k undef)
   rw [List.getD_eq_getElem?_getD, List.getElem?_eq_getElem hk2]
   simp [World.cell?, hheap, hcur]
  ·have hk2 : k < xs.length := by omega
   show CRep w S (xs.getD k undef) _
   rw [List.getD_eq_getElem?_getD, List.getElem?_eq_getElem hk2]
   exact h3 k hk hk2
theorem tv_form {r : List Root} (h : Heap T w S r bx ph) {t o : Nat} {p : Path} {v : Value} (hx : XRep T w S r bx ph v (.tv t o p)) : ∃ sh c hh q e ks, (r.getD t .none).row[o]? = some (.tree sh c hh) ∧ (ph t o).get? p = some q ∧ pathOk T sh p ∧ sh.to p = .sl e ks ∧ v = q.v ∧
    ((v = nilSl ∧ gn (atC c p) = 0 ∧ gc (atC c p) = [] ∧ q.b = none) ∨ ∃ g cap xs hp, q.b = some g ∧ v = .slice (some ⟨g, 0, none⟩) (gn (atC c p)) cap ∧ w.ownsRow 0 e (szOf T e) v (gn (atC c p)) xs ∧ (gc (atC c p)).length = xs.length ∧ q.kids.length = xs.length ∧
      (hh = none → hp = none) ∧ ∀ k (h1 : k < xs.length) (h2 : k < q.kids.length) (h3 : k < (gc (atC c p)).length), CRepT T w S (holeAt hp k) (ks.getD (k % szOf T e) .st) xs[k] q.kids[k] (gc (atC c p))[k]) := by
  obtain ⟨sh, c, hh, q, h1, h2, h3, ⟨e, ks, h4⟩, h5, rfl⟩ := hx
  obtain ⟨t1, _, _, _⟩ := h.cell h1
  obtain ⟨hp', u, g1, g2, _⟩ := CRepT.get p t1 h2 h3
  rw [h4] at g1
  refine ⟨sh, c, hh, q, e, ks, h1, h2, h3, h4, rfl, ?_⟩
  rcases g1.sl_cases h5 with ⟨k1, k2, k3, k4, _⟩ | ⟨g, cap, xs, k1, k2, k3, k4, k5, k6, k7, k8⟩
  · exact .inl ⟨k1, k2, k3, k4⟩
  · exact .inr ⟨g, cap, xs, hp', k1, k2, k3, k4, k5, fun e => g2 (by rw [e]; rfl), k8⟩
theorem tv_slice {r : List Root} (h : Heap T w S r bx ph) {t o : Nat} {p : Path} {v : Value} (hx : XRep T w S r bx ph v (.tv t o p)) : ∃ a n cap, v = .slice a n cap := by
 obtain ⟨_, c, _, _, _, _, _, _, _, _, _, h1 | ⟨_, _, _, _, _, h1, _⟩⟩ := tv_form h hx
 ·exact ⟨_, _, _, h1.1⟩
 ·exact ⟨_, _, _, h1⟩
theorem conv_sound (hT : TOk P T) (h : Heap T w S st.r bx ph) {src dst : TypeId} {u : Value} {U V : V} {obl : List Prop} (hu : VRep T w S st.r bx ph u U)
    (hp : convV T (std P T) st src dst U = some (V, obl)) (ho : ∀ p ∈ obl, p) :
    ∃ z, (∀ w' : World, ((∃ c, U = .one (.c (.val c))) ∨ Keep S st.r bx ph w w') → (convert src dst u).run P w' = .ok z w') ∧ VRep T w S st.r bx ph z V := by
  unfold convV at hp
  split at hp
  · rename_i ts td hts htd
    obtain ⟨us, _⟩ := hT _ _ hts
    obtain ⟨ud, _⟩ := hT _ _ htd
    split at hp
    · rename_i k hd
      rw [hd] at ud
      split at hp
      · rename_i k' n
        obtain ⟨rfl, _⟩ := crep_val hu
        split at hp
        · rename_i hi
          cases hp
          refine ⟨_, fun w' _ => ?_, .val rfl⟩
          simp [convert, run_underlying us, run_underlying ud, Conv.intToInt, std]
        · cases hp
      · cases hp
    · rename_i hd
      rw [hd] at ud
      split at hp
      · rename_i s
        obtain ⟨rfl, _⟩ := crep_val hu
        cases hp
        refine ⟨_, fun w' _ => ?_, .val rfl⟩
        simp [convert, run_underlying us, run_underlying ud]
      · rename_i x hns
        split at hp
        · rename_i e hsl
          rw [hsl] at us
          split at hp
          · rename_i hu8
            have ue := desc_of hT hu8 (by simp)
            split at hp
            · rename_i n cells
              cases hp
              have hb : isBytesC cells := ho _ (List.mem_cons_self ..)
              have h1 : n ≤ cells.length := ho _ (List.mem_cons_of_mem _ (List.mem_cons_self ..))
              have h2 : cells.length ≤ n := ho _ (List.mem_cons_of_mem _ (List.mem_cons_of_mem _ (List.mem_cons_self ..)))
              refine ⟨_, fun w' hk0 => ?_, .val rfl⟩
              have hk : Keep S st.r bx ph w w' := by rcases hk0 with ⟨_, hk⟩ | hk; cases hk; exact hk
              have hu' : CRep w S u (.sl n cells) := hu
              cases hu' with
              | sl0 =>
                rename_i a cap
                cases a with
                | none => rw [run_convert_bytes_string w' src dst e none 0 cap us ue ud]; rfl
                | some a => exact conv_bytes (S := S) (w := w) hT (fun _ => undef) hb rfl (fun k hk => absurd hk (by omega)) (fun k hk => absurd hk (by simp)) us ue ud
              | sl vs hs hn hc hr =>
                exact conv_bytes (S := S) (w := w) hT vs hb (by omega) (fun k hk' => by
                  rw [Addr.add_lit]; exact (World.cell?_of_block (hk.1 _ hs)).trans (hc k (by omega))) hr us ue ud
            · cases hp
              rw [crep_nil hu]
              refine ⟨_, fun w' hk => ?_, .val rfl⟩
              rw [run_convert_bytes_string w' src dst e none 0 0 us ue ud]; rfl
            · rename_i t o
              split at hp
              · rename_i e' n cells hown
                split at hp
                · cases hp
                  have hb : isBytesC cells := ho _ (List.mem_cons_self ..)
                  obtain ⟨e'', n'', cells'', hc, rfl⟩ := hu
                  have hc2 := ownAt_eq hown
                  refine ⟨_, fun w' hk0 => ?_, .val rfl⟩
                  have hk : Keep S st.r bx ph w w' := by rcases hk0 with ⟨_, hk⟩ | hk; cases hk; exact hk
                  have hrc := own_cells h hc2 hk
                  rename_i heq
                  have hsz : szOf T e' = 1 := by rw [heq.1]; exact heq.2
                  rcases own_form hrc with ⟨h1, h2, h3⟩ | ⟨g, cap, h1, h2, h3, h4, us', h5, h6⟩
                  · rw [h1, h3, run_convert_bytes_string w' src dst e none 0 0 us ue ud]; rfl
                  · rw [h1]
                    exact conv_bytes (S := S) (w := w') hT us' hb (by rw [h4, hsz, Nat.mul_one]) (fun k hk' => by
                      rw [Addr.add_lit, Nat.zero_add]; exact h5 k (by rw [h4, hsz]; omega)) h6 us ue ud
                · cases hp
              · cases hp
            · cases hp
          · cases hp
        · cases hp
      · cases hp
    · cases hp
  · cases hp
end Go.Proofs.Ytcpcghnpoekhpaa.A
/- The ghost machine, part 9: reading, addresses, cuts, lengths, structs are sound. -/
set_option linter.unusedSimpArgs false
set_option linter.unusedVariables false
set_option maxRecDepth 100000
set_option maxHeartbeats 4000000
namespace Go.Proofs.Ytcpcghnpoekhpaa.A
open Go Go.RowKit
variable {P : Program} {T : TT} {w w0 : World} {S S0 : Nat → Prop} {F : Fr} {bx : Nat → Nat} {ph : Nat → Nat → Pv} {a : Act} {st st' : St}
theorem run_sizeOf (hT : TOk P T) {t : TypeId} {ti : TI} (h : T t = some ti) (w' : World) : (sizeOf t).run P w' = .ok ti.size w' := by
 obtain ⟨_, i, h1, h2, _⟩ := hT t ti h
 simp [sizeOf, typeInfo, h1, h2]
theorem run_isAgg (hT : TOk P T) {t : TypeId} {ti : TI} (h : T t = some ti) (w' : World) : (isAgg t).run P w' = .ok (isAggD ti.desc) w' := by
 obtain ⟨h0, _⟩ := hT t ti h
 simp only [isAgg, Sem.run_bind, run_underlying h0, Result.andThen_ok]
 cases ti.desc <;> rfl
theorem fieldOf_desc (hT : TOk P T) {s : TypeId} {f : Nat} {fd : Field} (h : fieldOf T s f = some fd) : ∃ fields, P.underlying s = some (.struct fields) ∧ fields[f]? = some fd := by
 unfold fieldOf at h
 split at h
 ·rename_i fields hd
  exact ⟨fields, desc_of hT hd (by simp), h⟩
 ·cases h
theorem run_fieldAt (hT : TOk P T) {s : TypeId} {f : Nat} {fd : Field} {tf : TI} (h : fieldOf T s f = some fd) (ht : T fd.type = some tf) (hz : tf.size ≠ 0) (ad : Addr) (w' : World) :
  (Instr.fieldAt s (.pointer (some ad)) f).run P w' = .ok (.pointer (some (ad.add fd.offset))) w' := by
 obtain ⟨fields, h1, h2⟩ := fieldOf_desc hT h
 simp [Instr.fieldAt, run_underlying h1, h2, Instr.sureAddr, fieldPlace, run_sizeOf hT ht, hz]
theorem fldAddr_sound (hT : TOk P T) {s : TypeId} {f : Nat} {u : Value} {U V : V} {obl : List Prop} (hu : VRep T w S st.r bx ph u U)
  (hp : fldAddrV T (std P T) st s f U = some (V, obl)) : ∃ z, (∀ w' : World, (Instr.fieldAt s u f).run P w' = .ok z w') ∧ VRep T w S st.r bx ph z V := by
 unfold fldAddrV at hp
 split at hp
 ·rename_i fd hf
  split at hp
  ·rename_i tf htf
   split at hp
   ·cases hp
   ·rename_i hz
    split at hp
    ·rename_i t o
     split at hp
     ·rename_i hin
      cases hp
      obtain ⟨row, h1, h2, rfl⟩ := hu
      refine ⟨_, fun w' => run_fieldAt hT hf htf hz _ w', ?_⟩
      rw [Addr.add_lit]
      have hrow : (rootOf st.r t).row = row := by unfold rootOf; rw [h1]; rfl
      rw [hrow] at hin
      exact ⟨row, h1, hin, rfl⟩
     ·cases hp
    ·cases hp
     obtain ⟨e, n, cells, g, cap, h1, h2, rfl⟩ := hu
     refine ⟨_, fun w' => run_fieldAt hT hf htf hz _ w', ?_⟩
     rw [Addr.add_lit, plus_std]
     exact ⟨e, n, cells, g, cap, h1, h2, rfl⟩
    ·cases hp
     obtain ⟨b, base, vs, rfl, h2, h3, h4⟩ := hu
     refine ⟨_, fun w' => run_fieldAt hT hf htf hz _ w', ?_⟩
     rw [Addr.add_lit, plus_std]
     exact ⟨b, base, vs, by rw [Nat.add_assoc], h2, h3, h4⟩
    ·cases hp
     obtain ⟨sh, c, hh, q, e, ks, g, n, cap, h1, h2, h3, h4, h5, h6, ⟨i, h7⟩, rfl⟩ := hu
     refine ⟨_, fun w' => run_fieldAt hT hf htf hz _ w', ?_⟩
     rw [Addr.add_lit, plus_std]
     exact ⟨sh, c, hh, q, e, ks, g, n, cap, h1, h2, h3, h4, h5, h6, ⟨i, by rw [h7, Nat.add_assoc]⟩, rfl⟩
    ·cases hp
  ·cases hp
 ·cases hp
theorem fld_sound (hT : TOk P T) {r : List Root} {s : TypeId} {f : Nat} {u : Value} {U V : V} {obl : List Prop} (hu : VRep T w S r bx ph u U)
  (hp : fldV T s f U = some (V, obl)) : ∃ z, (∀ w' : World, (Instr.field s u f).run P w' = .ok z w') ∧ VRep T w S r bx ph z V := by
 unfold fldV at hp
 split at hp
 ·rename_i fd hf
  obtain ⟨fields, hd, hfd⟩ := fieldOf_desc hT hf
  split at hp
  ·rename_i tf xs htf
   obtain ⟨cs, rfl, hs, hx⟩ := hu
   split at hp
   ·rename_i hag
    cases hp
    refine ⟨.agg (cs.extract fd.offset (fd.offset + tf.size)), fun w' => ?_, ⟨_, rfl, ?_, fun k hk hk2 => ?_⟩⟩
    ·simp [Instr.field, run_underlying hd, hfd, part, run_isAgg hT htf, hag, run_sizeOf hT htf, asAgg]
    ·simp [hs]; omega
    ·have hk' : k < ((xs.drop fd.offset).take tf.size).length := hk
     have h1 : fd.offset + k < xs.length := by simp at hk'; omega
     have := hx (fd.offset + k) h1 (by omega)
     simpa using this
   ·rename_i hag
    split at hp
    ·rename_i x hx1
     cases hp
     obtain ⟨ho, he⟩ := List.getElem?_eq_some_iff.1 hx1
     have hag' : isAggD tf.desc = false := by simpa using hag
     refine ⟨cs[fd.offset], fun w' => ?_, ?_⟩
     ·simp [Instr.field, run_underlying hd, hfd, part, run_isAgg hT htf, hag', asAgg, Array.getElem?_eq_getElem (show fd.offset < cs.size by omega)]
     ·have := hx fd.offset ho (by omega)
      rw [he] at this
      exact this
    ·cases hp
  ·cases hp
 ·cases hp
theorem elemOf_desc (hT : TOk P T) {t e : TypeId} {te : TI} (h : elemOf T t = some (e, te)) : P.underlying t = some (.slice e) ∧ T e = some te ∧ szOf T e = te.size := by
 unfold elemOf at h
 split at h
 ·rename_i e' hd
  split at h
  ·rename_i te' hte
   cases h
   exact ⟨desc_of hT hd (by simp), hte, by simp [szOf, hte]⟩
  ·cases h
 ·cases h
theorem run_idx (hT : TOk P T) {t e : TypeId} {te : TI} (h : elemOf T t = some (e, te)) (ad : Addr) (n cap : Nat) (k : IntKind) (i : Int) (h0 : 0 ≤ i ∧ i < (n : Int)) (w' : World) :
  (Instr.indexAt t (.slice (some ad) n cap) (.int k i)).run P w' = .ok (.pointer (some (ad.add (i.toNat * te.size)))) w' := by
 obtain ⟨h1, h2, h3⟩ := elemOf_desc hT h
 simp [Instr.indexAt, run_underlying h1, asIntOf, h0, run_sizeOf hT h2]
theorem idxAddr_sound (hT : TOk P T) (h : Heap T w S st.r bx ph) {t : TypeId} {u v : Value} {U I V : V} {obl : List Prop} (hu : VRep T w S st.r bx ph u U) (hi : VRep T w S st.r bx ph v I)
  (hp : idxAddrV T (std P T) st t U (num I) = some (V, obl)) (ho : ∀ p ∈ obl, p) : ∃ z, (∀ w' : World, (Instr.indexAt t u v).run P w' = .ok z w') ∧ VRep T w S st.r bx ph z V := by
 unfold idxAddrV at hp
 split at hp
 ·rename_i e te i hel hnum
  obtain ⟨k, rfl⟩ := num_sound hi hnum
  obtain ⟨hd, hte, hsz⟩ := elemOf_desc hT hel
  split at hp
  ·rename_i n cells
   cases hp
   have h0 : 0 ≤ i ∧ i < (n : Int) := ho _ (List.mem_cons_self ..)
   have hu' : CRep w S u (.sl n cells) := hu
   cases hu' with
   | sl0 => omega
   | sl vs hs hn hc hr =>
    refine ⟨_, fun w' => run_idx hT hel _ _ _ _ _ h0 w', ?_⟩
    rw [Addr.add_lit, mulSz_std]
    exact ⟨_, _, vs, rfl, hs, hc, hr⟩
  ·rename_i t' o
   split at hp
   ·rename_i e' n cells hown
    split at hp
    ·rename_i he
     subst he
     cases hp
     have h0 : 0 ≤ i ∧ i < (n : Int) := ho _ (List.mem_cons_self ..)
     have hc := ownAt_eq hown
     obtain ⟨_, _, _, _, rfl⟩ := hu
     rcases own_form (h.cell hc) with ⟨h1, h2, h3⟩ | ⟨g, cap, h1, h2, h3, h4, us, h5, h6⟩
     ·omega
     ·rw [h1]
      refine ⟨_, fun w' => run_idx hT hel _ _ _ _ _ h0 w', ?_⟩
      rw [Addr.add_lit, mulSz_std, Nat.zero_add]
      exact ⟨e, n, cells, g, cap, hc, h1, rfl⟩
    ·cases hp
   ·cases hp
  ·rename_i t' o lo hi'
   split at hp
   ·rename_i e' n cells hown
    split at hp
    ·rename_i he
     subst he
     cases hp
     have h0 : 0 ≤ i ∧ i < ((if lo = 0 then hi' else hi' - lo : Nat) : Int) := ho _ (List.mem_cons_self ..)
     have hc := ownAt_eq hown
     obtain ⟨e'', n'', cells'', aa, cap, a', h1, h2, h3, h4, rfl, h6, h7⟩ := hu
     rw [hc] at h1; cases h1
     have h0' : 0 ≤ i ∧ i < ((hi' - lo : Nat) : Int) := by
      refine ⟨h0.1, ?_⟩
      have := h0.2
      split at this <;> omega
     obtain ⟨g, rfl, rfl⟩ := h7 (by omega)
     refine ⟨_, fun w' => run_idx hT hel _ _ _ _ _ h0' w', ?_⟩
     rw [Addr.add_lit, mulSz_std, plus_std, hsz, ← Nat.add_mul]
     exact ⟨e, n, cells, g, cap, hc, h2, rfl⟩
    ·cases hp
   ·cases hp
  ·rename_i t' o p
   split at hp
   ·rename_i e' ks n cells hnode
    split at hp
    ·rename_i he
     subst he
     cases hp
     have h0 : 0 ≤ i ∧ i < (n : Int) := ho _ (List.mem_cons_self ..)
     obtain ⟨sh, c, hh, k1, k2, rfl, rfl⟩ := nodeAt_eq hnode
     obtain ⟨sh', c', hh', q, e2, ks2, m1, m2, m3, m4, rfl, m5⟩ := tv_form h hu
     rw [k1] at m1; cases m1
     rw [k2] at m4; cases m4
     rcases m5 with ⟨m5, m6, _, _⟩ | ⟨g, cap, xs, hp', m5, m6, m7, _⟩
     ·omega
     ·rw [m6]
      refine ⟨_, fun w' => run_idx hT hel _ _ _ _ _ h0 w', ?_⟩
      rw [Addr.add_lit, mulSz_std, Nat.zero_add]
      exact ⟨sh, c, hh, q, e, ks, g, _, cap, k1, m2, m3, k2, m5, m6, ⟨i.toNat, by rw [hsz, Nat.add_zero]; rfl⟩, rfl⟩
    ·cases hp
   ·cases hp
  ·cases hp
 ·cases hp
theorem idx_sound (hT : TOk P T) {r : List Root} {t : TypeId} {u v : Value} {U I V : V} {obl : List Prop} (hu : VRep T w S r bx ph u U) (hi : VRep T w S r bx ph v I)
  (hp : idxV T (std P T) t U (num I) = some (V, obl)) (ho : ∀ p ∈ obl, p) : ∃ z, (∀ w' : World, (Instr.index t u v).run P w' = .ok z w') ∧ VRep T w S r bx ph z V := by
 unfold idxV at hp
 split at hp
 ·rename_i s i hd hnum
  obtain ⟨k, rfl⟩ := num_sound hi hnum
  cases hp
  have h0 : 0 ≤ i ∧ i < (s.size : Int) := ho _ (List.mem_cons_self ..)
  obtain ⟨rfl, _⟩ := crep_val hu
  have ud := desc_of hT hd (by simp)
  refine ⟨_, fun w' => ?_, .val rfl⟩
  rw [run_index_string w' t s k i ud, dif_pos h0]
  have h1 : i.toNat < s.size := by omega
  show _ = Result.ok (Value.int .u8 (satB s i.toNat)) w'
  rw [satB, bt_eq h1]
 ·cases hp
theorem len_sound (hT : TOk P T) {t ty : TypeId} {u : Value} {U V : V} {obl : List Prop} (h : Heap T w S st.r bx ph) (hu : VRep T w S st.r bx ph u U)
  (hp : lenV T (std P T) st t U = some (V, obl)) : ∃ z, (∀ w' : World, (Builtin.len_ #[t] ty #[u]).run P w' = .ok z w') ∧ VRep T w S st.r bx ph z V := by
 have hsl : ∀ e (a : Option Addr) (n cap : Nat) (w' : World), descOf T t = .slice e → (Builtin.len_ #[t] ty #[.slice a n cap]).run P w' = .ok (goInt n) w' := fun e a n cap w' hd => by
  have ud := desc_of hT hd (by simp)
  simp [Builtin.len_, run_underlying ud]
 unfold lenV at hp
 split at hp
 ·rename_i s
  split at hp
  ·rename_i hd
   cases hp
   obtain ⟨rfl, _⟩ := crep_val hu
   exact ⟨_, fun w' => run_len_string w' t ty s (desc_of hT hd (by simp)), .val rfl⟩
  ·cases hp
 ·rename_i n cells
  split at hp
  ·rename_i e hd
   cases hp
   obtain ⟨a, cap, rfl⟩ := crep_sl hu
   exact ⟨_, fun w' => hsl e a n cap w' hd, .val rfl⟩
  ·cases hp
 ·split at hp
  ·rename_i e hd
   cases hp
   rw [crep_nil hu]
   exact ⟨_, fun w' => hsl e none 0 0 w' hd, .val rfl⟩
  ·cases hp
 ·rename_i t' o
  split at hp
  ·rename_i e e' n cells hd hown
   cases hp
   have hc := ownAt_eq hown
   obtain ⟨_, _, _, _, rfl⟩ := hu
   rcases own_form (h.cell hc) with ⟨h1, h2, h3⟩ | ⟨g, cap, h1, h2, h3, h4, us, h5, h6⟩
   ·rw [h1, h2]; exact ⟨_, fun w' => hsl e none 0 0 w' hd, .val rfl⟩
   ·rw [h1]; exact ⟨_, fun w' => hsl e _ n cap w' hd, .val rfl⟩
  ·cases hp
 ·rename_i t' o lo hi
  split at hp
  ·rename_i e hd
   cases hp
   obtain ⟨e'', n'', cells'', aa, cap, a', h1, h2, h3, h4, rfl, h6, h7⟩ := hu
   refine ⟨_, fun w' => hsl e _ _ _ w' hd, ?_⟩
   have : (std P T).ofNat (if lo = 0 then hi else (std P T).sub hi lo) = ((hi - lo : Nat) : Int) := by
    show ((if lo = 0 then hi else hi - lo : Nat) : Int) = _
    split
    ·rename_i h0; rw [h0, Nat.sub_zero]
    ·rfl
   rw [this]
   exact .val rfl
  ·cases hp
 ·rename_i t' o p
  split at hp
  ·rename_i e e' ks n cells hd hnode
   cases hp
   obtain ⟨sh, c, hh, k1, k2, rfl, rfl⟩ := nodeAt_eq hnode
   obtain ⟨sh', c', hh', q, e2, ks2, m1, m2, m3, m4, rfl, m5⟩ := tv_form h hu
   rw [k1] at m1; cases m1
   rcases m5 with ⟨m5, m6, _, _⟩ | ⟨g, cap, xs, hp', m5, m6, _⟩
   ·rw [m5, m6]; exact ⟨_, fun w' => hsl e none 0 0 w' hd, .val rfl⟩
   ·rw [m6]; exact ⟨_, fun w' => hsl e _ _ cap w' hd, .val rfl⟩
  ·cases hp
 ·cases hp
end Go.Proofs.Ytcpcghnpoekhpaa.A
/- The ghost machine, part 10: cuts, loads, structs; all operations that make and change nothing. -/
set_option linter.unusedSimpArgs false
set_option linter.unusedVariables false
set_option maxRecDepth 100000
set_option maxHeartbeats 4000000
namespace Go.Proofs.Ytcpcghnpoekhpaa.A
open Go Go.RowKit
variable {P : Program} {T : TT} {w w0 : World} {S S0 : Nat → Prop} {F : Fr} {bx : Nat → Nat} {ph : Nat → Nat → Pv} {a : Act} {st st' : St}
def BRep (b : Option Value) (i : Option (Option Int)) : Prop :=
 match b, i with
 | none, none => True
 | some v, some (some n) => ∃ k, v = .int k n
 | some _, some none => True
 | _, _ => False
theorem cut_sound {n cap l h : Nat} {lov hiv : Option Value} {lo hi : Option (Option Int)} {obl : List Prop} {b : Bool} (hcap : n ≤ cap) (hl : BRep lov lo) (hh : BRep hiv hi)
  (hp : cutV (std P T) n lo hi = some (l, h, obl)) (ho : ∀ p ∈ obl, p) : l ≤ h ∧ h ≤ n ∧ ∀ w' : World, (Instr.sliceBounds b n cap lov hiv none).run P w' = .ok (l, h, cap) w' := by
 have hb : ∀ (k : IntKind) (i : Int) (y : Nat) (c : BoundsCode) (w' : World), 0 ≤ i → i ≤ (y : Int) → (Instr.sliceBound (.int k i) y c).run P w' = .ok i.toNat w' := fun k i y c w' h0 h1 => by
  simp [Instr.sliceBound, asIntOf, h0, h1]
 unfold cutV at hp
 split at hp
 ·cases hp
  cases lov with
  | some v => exact hl.elim
  | none =>
   cases hiv with
   | some v => exact hh.elim
   | none => exact ⟨Nat.zero_le _, Nat.le_refl _, fun w' => by simp [Instr.sliceBounds]⟩
 ·rename_i i
  cases hp
  have h0 : 0 ≤ i := ho _ (List.mem_cons_self ..)
  have h1 : i ≤ (n : Int) := ho _ (List.mem_cons_of_mem _ (List.mem_cons_self ..))
  cases lov with
  | none => exact hl.elim
  | some v =>
   obtain ⟨k, rfl⟩ := hl
   cases hiv with
   | some v => exact hh.elim
   | none =>
    refine ⟨?_, Nat.le_refl _, fun w' => ?_⟩
    ·show i.toNat ≤ n
     omega
    ·show _ = Result.ok (i.toNat, n, cap) w'
     have := hb k i n .sliceB w' h0 h1
     simp [Instr.sliceBounds, this]
 ·rename_i i
  cases hp
  have h0 : 0 ≤ i := ho _ (List.mem_cons_self ..)
  have h1 : i ≤ (n : Int) := ho _ (List.mem_cons_of_mem _ (List.mem_cons_self ..))
  cases lov with
  | some v => exact hl.elim
  | none =>
   cases hiv with
   | none => exact hh.elim
   | some v =>
    obtain ⟨k, rfl⟩ := hh
    refine ⟨Nat.zero_le _, ?_, fun w' => ?_⟩
    ·show i.toNat ≤ n
     omega
    ·show _ = Result.ok (0, i.toNat, cap) w'
     cases b <;> simp [Instr.sliceBounds, hb k i cap _ w' h0 (by omega)]
 ·rename_i i i2
  cases hp
  have h0 : 0 ≤ i := ho _ (List.mem_cons_self ..)
  have h1 : i ≤ i2 := ho _ (List.mem_cons_of_mem _ (List.mem_cons_self ..))
  have h2 : i2 ≤ (n : Int) := ho _ (List.mem_cons_of_mem _ (List.mem_cons_of_mem _ (List.mem_cons_self ..)))
  cases lov with
  | none => exact hl.elim
  | some v =>
   obtain ⟨k, rfl⟩ := hl
   cases hiv with
   | none => exact hh.elim
   | some v =>
    obtain ⟨k2, rfl⟩ := hh
    refine ⟨?_, ?_, fun w' => ?_⟩
    ·show i.toNat ≤ i2.toNat
     omega
    ·show i2.toNat ≤ n
     omega
    ·show _ = Result.ok (i.toNat, i2.toNat, cap) w'
     cases b <;> simp [Instr.sliceBounds, hb k2 i2 cap _ w' (by omega) (by omega), hb k i i2.toNat _ w' h0 (by omega)]
 ·cases hp
theorem slice_sound (hT : TOk P T) (h : Heap T w S st.r bx ph) {t : TypeId} {u : Value} {U V : V} {obl : List Prop} {lov hiv : Option Value} {lo hi : Option (Option Int)} (hu : VRep T w S st.r bx ph u U) (hl : BRep lov lo) (hh : BRep hiv hi)
  (hp : sliceV T (std P T) st t U lo hi = some (V, obl)) (ho : ∀ p ∈ obl, p) : ∃ z, (∀ w' : World, (Instr.sliceAt t u lov hiv none).run P w' = .ok z w') ∧ VRep T w S st.r bx ph z V := by
 have hrun : ∀ (e : TypeId) (te : TI) (aa : Option Addr) (n cap l hh' : Nat) (w' : World), elemOf T t = some (e, te) → (Instr.sliceBounds true n cap lov hiv none).run P w' = .ok (l, hh', cap) w' →
   (Instr.sliceAt t (.slice aa n cap) lov hiv none).run P w' = .ok (.slice (if cap = l then aa else aa.map (·.add (l * te.size))) (hh' - l) (cap - l)) w' := fun e te aa n cap l hh' w' hel hb => by
  obtain ⟨hd, hte, hsz⟩ := elemOf_desc hT hel
  simp [Instr.sliceAt, Instr.slice, run_underlying hd, hb, run_sizeOf hT hte]
 unfold sliceV at hp
 split at hp
 ·rename_i s
  split at hp
  ·rename_i hd
   split at hp
   ·rename_i l h' obl' hc
    cases hp
    obtain ⟨rfl, _⟩ := crep_val hu
    obtain ⟨h1, h2, h3⟩ := cut_sound (b := false) (Nat.le_refl _) hl hh hc ho
    have ud := desc_of hT hd (by simp)
    refine ⟨_, fun w' => ?_, .val rfl⟩
    have h3' : (Instr.sliceBounds false s.size s.size lov hiv none).run P w' = .ok (l, h', s.size) w' := h3 w'
    simp [Instr.sliceAt, Instr.slice, run_underlying ud, h3']
    rfl
   ·cases hp
  ·cases hp
 ·rename_i n cells
  split at hp
  ·rename_i e te hel
   obtain ⟨hd, hte, hsz⟩ := elemOf_desc hT hel
   split at hp
   ·rename_i l h' obl' hc
    cases hp
    obtain ⟨aa, cap, rfl⟩ := crep_sl hu
    have hcap : n ≤ cap := by
     have hu' : CRep w S (.slice aa n cap) (.sl n cells) := hu
     cases hu' with
     | sl0 => omega
     | sl _ _ hn _ _ => exact hn
    obtain ⟨h1, h2, h3⟩ := cut_sound (b := true) hcap hl hh hc ho
    refine ⟨_, fun w' => hrun e te aa n cap l h' w' hel (h3 w'), ?_⟩
    rw [mulSz_std, mulSz_std]
    have e1 : (if l = 0 then h' else (std P T).sub h' l) = h' - l := by
     split
     ·omega
     ·rfl
    rw [e1]
    refine crep_sub (cells := cells) (n := n) (aa := aa) (cap := cap) hu h2 (by omega) (fun hlt => ?_)
    have hu' : CRep w S (.slice aa n cap) (.sl n cells) := hu
    cases hu' with
    | sl0 => omega
    | sl vs hs hn hc' hr => exact ⟨_, _, rfl, by rw [if_neg (by omega)]; simp [Addr.add_lit]⟩
   ·cases hp
  ·cases hp
 ·rename_i t' o
  split at hp
  ·rename_i e te e' n cells hel hown
   split at hp
   ·rename_i he
    subst he
    have hc := ownAt_eq hown
    obtain ⟨hd, hte, hsz⟩ := elemOf_desc hT hel
    have hu0 := hu
    obtain ⟨_, _, _, _, rfl⟩ := hu
    obtain ⟨aa, cap, hv, hcap, hg⟩ : ∃ aa cap, (ph t' o).v = .slice aa n cap ∧ n ≤ cap ∧ (0 < n → ∃ g, aa = some ⟨g, 0, none⟩) := by
     rcases own_form (h.cell hc) with ⟨h1, h2, h3⟩ | ⟨g, cap, h1, h2, h3, h4, us, h5, h6⟩
     ·exact ⟨none, 0, by rw [h1, h2], by omega, fun h => by omega⟩
     ·exact ⟨_, cap, h1, h2, fun _ => ⟨g, rfl⟩⟩
    have sub : ∀ l h' obl', cutV (std P T) n lo hi = some (l, h', obl') → (∀ p ∈ obl', p) → ∃ z, (∀ w' : World, (Instr.sliceAt t (ph t' o).v lov hiv none).run P w' = .ok z w') ∧ VRep T w S st.r bx ph z (.one (.sub t' o l h')) := by
     intro l h' obl' hcut ho'
     obtain ⟨h1, h2, h3⟩ := cut_sound (b := true) hcap hl hh hcut ho'
     refine ⟨_, fun w' => by rw [hv]; exact hrun e te aa n cap l h' w' hel (h3 w'), e, n, cells, aa, cap, _, hc, hv, h1, h2, rfl, fun hl0 => ?_, fun hlt => ?_⟩
     ·subst hl0
      split
      ·rfl
      ·cases aa <;> simp [Addr.add]
     ·obtain ⟨g, rfl⟩ := hg (by omega)
      refine ⟨g, rfl, ?_⟩
      rw [if_neg (by omega), hsz]
      simp [Addr.add_lit]
    split at hp
    ·cases hp
     refine ⟨(ph t' o).v, fun w' => ?_, hu0⟩
     have := (cut_sound (P := P) (T := T) (b := true) hcap hl hh (by rfl : cutV (std P T) n none none = some (0, n, [])) (fun p hp => by cases hp)).2.2 w'
     rw [hv, hrun e te aa n cap 0 n w' hel this]
     congr 2
     split
     ·rfl
     ·cases aa <;> simp [Addr.add]
    ·split at hp
     ·rename_i l h' obl' hcut
      cases hp
      exact sub l h' obl hcut ho
     ·cases hp
   ·cases hp
  ·cases hp
 ·cases hp
end Go.Proofs.Ytcpcghnpoekhpaa.A
/- The ghost machine, part 11: loads, structs built; all operations that make and change nothing. -/
set_option linter.unusedSimpArgs false
set_option linter.unusedVariables false
set_option maxRecDepth 100000
set_option maxHeartbeats 4000000
namespace Go.Proofs.Ytcpcghnpoekhpaa.A
open Go Go.RowKit
variable {P : Program} {T : TT} {w w0 : World} {S S0 : Nat → Prop} {F : Fr} {bx : Nat → Nat} {ph : Nat → Nat → Pv} {a : Act} {st st' : St}
theorem shape_sound {v : Value} {k : K} {c : C} (h : CRep w S v c) (hk : okK k c) : CRep w S v (shape (std P T) k c) := by
 cases k with
 | int k => obtain ⟨n, rfl⟩ := hk; exact h
 | bool => obtain ⟨b, rfl⟩ := hk; exact h
 | str => obtain ⟨s, rfl⟩ := hk; exact h
 | sl =>
  rcases hk with rfl | ⟨n, cs, rfl⟩
  ·rw [crep_nil h]; exact .sl0
  ·exact h
 | raw => exact h
theorem run_loadVar_any (hT : TOk P T) {t : TypeId} {ti : TI} (ht : T t = some ti) (hsz : ti.size ≠ 0 ∧ (isAggD ti.desc = false → ti.size = 1)) (ad : Addr) (us : Nat → Value) (w' : World)
  (hc : ∀ k, k < ti.size → w'.cell? (ad.add k) = some (us k)) :
  (Instr.loadAt t (.pointer (some ad))).run P w' = .ok (if isAggD ti.desc then .agg ((List.range ti.size).map us).toArray else us 0) w' := by
 simp only [Instr.loadAt, Instr.sureAddr, Sem.run_bind, Sem.run_pure, Result.andThen_ok, loadVar, run_isAgg hT ht]
 cases hag : isAggD ti.desc with
 | true => simp [run_sizeOf hT ht, run_loadCells (P := P) w' ad ti.size us hc]
 | false =>
  have h0 := hc 0 (by omega)
  rw [Addr.add_zero'] at h0
  simp [load, Sem.run, h0]
theorem cX_sound {r : List Root} {v : Value} {c : C} (h : CRep w S v c) : XRep T w S r bx ph v (cX c) := by
 cases c with
 | mem cells off =>
  cases h with
  | mem vs h1 h2 h3 => exact ⟨_, _, vs, rfl, h1, h2, h3⟩
 | val => exact h
 | sl => exact h
 | nil => exact h
 | map => exact h
theorem rcX_sound {t o : Nat} {rc : RC} (h : Heap T w S st.r bx ph) (hc : (st.r.getD t .none).row[o]? = some rc) : XRep T w S st.r bx ph (ph t o) (rcX t o rc) := by
 have := h.cell hc
 cases rc with
 | st c => exact cX_sound this
 | own e n cells => exact ⟨e, n, cells, hc, rfl⟩
 | map kk m => exact ⟨kk, m, hc, rfl⟩
 | tree sh c' hp =>
  obtain ⟨h1, _, ⟨e, ks, rfl⟩, h4⟩ := this
  refine ⟨_, _, _, ph t o, hc, Pv.get_nil _, ?_, ⟨e, ks, rfl⟩, fun hb => ?_, rfl⟩
  ·simp [pathOk]
  ·rcases h1.bval hb with h5 | h5
   ·exact h5
   ·cases hp with
    | none => cases h5
    | some p => exact absurd (by simpa [pathN] using h5) (h4 p rfl).1
 | me f => trivial
 | dead => trivial
theorem rcB_sound {t o : Nat} {rc : RC} {row : List RC} (h : Heap T w S st.r bx ph) (hb : st.r.getD t .none = .box row) (hc : row[o]? = some rc) : XRep T w S st.r bx ph (ph t o) (rcB t o rc) := by
 have hc' : (st.r.getD t .none).row[o]? = some rc := by rw [hb]; exact hc
 have h1 := rcX_sound h hc'
 cases rc with
 | me f =>
  cases f with
  | none => exact h1
  | some f =>
   have hr := h.root t
   rw [hb] at hr
   exact ⟨⟨row, hb, by have := (List.getElem?_eq_some_iff.1 hc).1; omega⟩, hr.2.2 o (some f) hc⟩
 | st c => exact h1
 | own e n cells => exact h1
 | map kk m => exact h1
 | tree sh c p => exact h1
 | dead => exact h1
theorem mk_sound {r : List Root} {ag : Bool} {xs : List X} {V : V} {us : Nat → Value} {n : Nat} (hm : mk ag xs = some V) (hl : xs.length = n) (hx : ∀ k (h : k < xs.length), XRep T w S r bx ph (us k) xs[k]) :
  VRep T w S r bx ph (if ag then .agg ((List.range n).map us).toArray else us 0) V := by
 unfold mk at hm
 cases ag with
 | true =>
  simp only [if_true, Option.some.injEq] at hm
  subst hm
  refine ⟨_, rfl, by simp [hl], fun k hk hk2 => ?_⟩
  have := hx k hk
  simpa using this
 | false =>
  simp only [Bool.false_eq_true, if_false] at hm
  split at hm
  ·cases hm; exact hx 0 (by simp)
  ·cases hm
theorem cells_sound {ks : List K} {cells : List C} {off : Nat} {us : Nat → Value} {r : List Root} (hr : ∀ k (h : k < cells.length), CRep w S (us k) cells[k]) (hle : off + ks.length ≤ cells.length)
    (hok : ∀ p ∈ okAt (std P T) ks cells off, p) : ∀ k (h : k < ((cellsAt (std P T) ks cells off).map cX).length), XRep T w S r bx ph (us (off + k)) ((cellsAt (std P T) ks cells off).map cX)[k] := by
  intro k hk
  have hk' : k < ks.length := by simpa [cellsAt] using hk
  have hlt : off + k < cells.length := by omega
  have e1 : (if k = 0 then off else (std P T).add off k) = off + k := by
    split
    · omega
    · rfl
  have h3 : cellAt cells (off + k) = cells[off + k] := by unfold cellAt; rw [List.getD_eq_getElem?_getD, List.getElem?_eq_getElem hlt]; rfl
  have e2 : ((cellsAt (std P T) ks cells off).map cX)[k] = cX (shape (std P T) ks[k] (cellAt cells (off + k))) := by
    simp only [cellsAt, List.getElem_map, List.getElem_zipIdx, Nat.zero_add]
    rw [e1]
    cases ks[k] <;> rfl
  rw [e2, h3]
  refine cX_sound (shape_sound (hr _ hlt) ?_)
  have := hok (okK ks[k] (cellAt cells (off + k))) (by
    unfold okAt
    refine List.mem_map.2 ⟨(ks[k], k), ?_, ?_⟩
    · rw [List.mem_zipIdx_iff_getElem?]; simp [hk']
    · dsimp only; rw [e1]; rfl)
  rwa [h3] at this
theorem tp_sound {r : List Root} {t o : Nat} {p : Path} {sh : Sh} {c : C} {hh : Option Path} {q : Pv} {e : TypeId} {ks : List Sh} {kds : List K} {xs : List Value} {hp : Option (List Nat)} {k off i0 : Nat}
    (h1 : (r.getD t .none).row[o]? = some (.tree sh c hh)) (h2 : (ph t o).get? p = some q) (h3 : pathOk T sh p) (h4 : sh.to p = .sl e ks) (hk : k = i0 * szOf T e + off) (hfit : off + kds.length ≤ szOf T e)
    (hq : q.kids.length = xs.length) (hc : (gc (atC c p)).length = xs.length) (hle : k + kds.length ≤ xs.length)
    (hr : ∀ k (h1 : k < xs.length) (h2 : k < q.kids.length) (h3 : k < (gc (atC c p)).length), CRepT T w S (holeAt hp k) (ks.getD (k % szOf T e) .st) xs[k] q.kids[k] (gc (atC c p))[k])
    (hok : ∀ x ∈ okAt (std P T) kds (gc (atC c p)) k, x) : ∀ i (hi : i < (tpCells (std P T) t o p ks kds (gc (atC c p)) k off).length), XRep T w S r bx ph (xs.getD (k + i) undef) (tpCells (std P T) t o p ks kds (gc (atC c p)) k off)[i] := by
  intro i hi
  have hi' : i < kds.length := by simpa [tpCells] using hi
  have hx : k + i < xs.length := by omega
  have e1 : (if i = 0 then k else (std P T).add k i) = k + i := by
    split
    · omega
    · rfl
  have hmod : (k + i) % szOf T e = off + i := by
    rw [hk, Nat.add_assoc, Nat.mul_comm, Nat.mul_add_mod]
    exact Nat.mod_eq_of_lt (by omega)
  have hq' : k + i < q.kids.length := by omega
  have hc' : k + i < (gc (atC c p)).length := by omega
  have hcr := hr (k + i) hx hq' hc'
  rw [hmod] at hcr
  have hok1 := hok (okK kds[i] (cellAt (gc (atC c p)) (k + i))) (by
    unfold okAt
    refine List.mem_map.2 ⟨(kds[i], i), ?_, ?_⟩
    · rw [List.mem_zipIdx_iff_getElem?]; simp [hi']
    · dsimp only; rw [e1]; rfl)
  rw [cellAt_get hc'] at hok1
  rw [List.getD_eq_getElem?_getD, List.getElem?_eq_getElem hx]
  show XRep T w S r bx ph xs[k + i] _
  have e2 : (tpCells (std P T) t o p ks kds (gc (atC c p)) k off)[i] = match ks.getD (off + i) .st, kds[i] with
      | .sl _ _, .sl => .tv t o (p ++ [(k + i, off + i)])
      | .sl _ _, _ => .undef
      | .st, .raw => .undef
      | .st, kd => cX (shape (std P T) kd (cellAt (gc (atC c p)) (k + i))) := by
    simp only [tpCells, List.getElem_map, List.getElem_zipIdx, Nat.zero_add]
    rw [e1]; rfl
  rw [e2, cellAt_get hc']
  cases hs : ks.getD (off + i) .st with
  | st =>
    rw [hs] at hcr
    cases hkd : kds[i] with
    | raw => trivial
    | _ =>
      dsimp only
      rw [hkd] at hok1
      generalize (gc (atC c p))[k + i] = cc at *
      generalize q.kids[k + i] = qq at *
      generalize xs[k + i] = vv at *
      generalize holeAt hp (k + i) = hp' at *
      cases hcr with
      | st hcc => exact cX_sound (shape_sound hcc hok1)
      | hole => first | (obtain ⟨_, h⟩ := hok1; cases h) | (rcases hok1 with h | ⟨_, _, h⟩ <;> cases h)
  | sl e' ks' =>
    cases hkd : kds[i] with
    | sl =>
      dsimp only
      rw [hkd] at hok1
      rw [hs] at hcr
      refine ⟨sh, c, hh, q.kids[k + i], h1, Pv.get_snoc p h2 hq', pathOk_snoc p h3 h4 hmod, ⟨e', ks', by rw [Sh.to_snoc p h4]; exact hs⟩, fun hb => ?_, hcr.val⟩
      rcases hcr.bval hb with h | h
      · exact h
      · generalize (gc (atC c p))[k + i] = cc at *
        generalize q.kids[k + i] = qq at *
        generalize xs[k + i] = vv at *
        generalize holeAt hp (k + i) = hp' at *
        cases hcr with
        | nil _ => rfl
        | hole => rcases hok1 with h | ⟨_, _, h⟩ <;> cases h
        | node => cases hb
    | _ => trivial
theorem load_sound (hT : TOk P T) (h : Heap T w S st.r bx ph) {t : TypeId} {u : Value} {U V : V} {obl : List Prop} (hu : VRep T w S st.r bx ph u U)
  (hp : loadV T (std P T) st t U = some (V, obl)) (ho : ∀ p ∈ obl, p) : ∃ z, (∀ w' : World, Keep S st.r bx ph w w' → (Instr.loadAt t u).run P w' = .ok z w') ∧ VRep T w S st.r bx ph z V := by
 unfold loadV at hp
 split at hp
 ·rename_i ti ht
  split at hp
  ·cases hp
  ·rename_i hz
   have hsz : ti.size ≠ 0 ∧ (isAggD ti.desc = false → ti.size = 1) := by
    refine ⟨fun h => hz (.inl h), fun h => ?_⟩
    by_cases h1 : ti.size = 1
    ·exact h1
    ·exact absurd (.inr ⟨h, h1⟩) hz
   split at hp
   ·rename_i t' o
    split at hp
    ·rename_i hin
     rw [Option.map_eq_some_iff] at hp
     obtain ⟨V', hm, he⟩ := hp
     cases he
     obtain ⟨row, h1, h2, rfl⟩ := hu
     have hrow : (rootOf st.r t').row = row := by unfold rootOf; rw [h1]; rfl
     rw [hrow] at hin hm
     have hroot := h.root t'
     rw [h1] at hroot
     obtain ⟨⟨arr, e, hb, hs, hc⟩, hr⟩ := hroot
     have hown : owns st.r bx ph t' none (bx t') := owns_of_box h1
     refine ⟨_, fun w' hk => run_loadVar_any hT ht hsz _ (fun k => ph t' (o + k)) w' (fun k hk' => ?_), ?_⟩
     ·rw [Addr.add_lit]
      have hb' : w'.heap[bx t']? = some (.cells arr e (0, 0)) := (hk.2 _ _ _ hown).trans hb
      have := hc (o + k) (by omega)
      simp [World.cell?, hb', this]
     ·have hlen : (rowB t' row o ti.size).length = ti.size := by simp [rowB]; omega
      refine mk_sound hm hlen (fun k hk => ?_)
      have hk' : k < ti.size := by omega
      have e2 : (rowB t' row o ti.size)[k] = rcB t' (o + k) (row[o + k]'(by omega)) := by
       simp [rowB]
      rw [e2]
      refine rcB_sound h h1 ?_
      rw [List.getElem?_eq_getElem (by omega)]
    ·cases hp
   ·rename_i t' o k
    split at hp
    ·rename_i e' n cells hown
     split at hp
     ·cases hp
     ·rename_i hcl
      rw [Option.map_eq_some_iff] at hp
      obtain ⟨V', hm, he⟩ := hp
      simp only [Prod.mk.injEq] at he
      obtain ⟨rfl, rfl⟩ := he
      have hcl : ti.cells.length = ti.size := by simpa using hcl
      have hle : plus (std P T) k ti.size ≤ cells.length := ho _ (List.mem_cons_self ..)
      rw [plus_std] at hle
      have hc := ownAt_eq hown
      obtain ⟨e'', n'', cells'', g, cap, h1, h2, rfl⟩ := hu
      have key : ∀ w', Keep S st.r bx ph w w' → ∃ us : Nat → Value, (∀ k, k < cells.length → w'.cell? ⟨g, k, none⟩ = some (us k)) ∧ ∀ k (hk : k < cells.length), CRep w' S (us k) cells[k] := fun w' hk => by
       rcases own_form (own_cells h hc hk) with ⟨q1, q2, q3⟩ | ⟨g', cap', q1, q2, q3, q4, us, q5, q6⟩
       ·rw [h2] at q1; cases q1
       ·rw [h2] at q1; cases q1
        exact ⟨us, q5, q6⟩
      obtain ⟨us, u1, u2⟩ := key w (Keep.refl _ _ _ _ _)
      have hsame : ∀ w', Keep S st.r bx ph w w' → ∀ k, w'.cell? ⟨g, k, none⟩ = w.cell? ⟨g, k, none⟩ := fun w' hk k => by
       refine World.cell?_of_block (hk.2 t' (some o) g ?_)
       exact own_blk hc (by show (ph t' o).v.ownBlock = some g; rw [h2]; rfl)
      refine ⟨_, fun w' hk => run_loadVar_any hT ht hsz _ (fun i => us (k + i)) w' (fun i hi => ?_), ?_⟩
      ·rw [Addr.add_lit]
       exact (hsame w' hk _).trans (u1 _ (by omega))
      ·exact mk_sound hm (by simp [cellsAt, hcl]) (cells_sound u2 (by omega) (fun p hp => ho p (List.mem_cons_of_mem _ hp)))
    ·cases hp
   ·rename_i cells k
    split at hp
    ·cases hp
    ·rename_i hcl
     rw [Option.map_eq_some_iff] at hp
     obtain ⟨V', hm, he⟩ := hp
     simp only [Prod.mk.injEq] at he
     obtain ⟨rfl, rfl⟩ := he
     have hcl : ti.cells.length = ti.size := by simpa using hcl
     have hle : plus (std P T) k ti.size ≤ cells.length := ho _ (List.mem_cons_self ..)
     rw [plus_std] at hle
     obtain ⟨b, base, vs, rfl, h2, h3, h4⟩ := hu
     refine ⟨_, fun w' hk => run_loadVar_any hT ht hsz _ (fun i => vs (k + i)) w' (fun i hi => ?_), ?_⟩
     ·rw [Addr.add_lit, Nat.add_assoc]
      exact (World.cell?_of_block (hk.1 _ h2)).trans (h3 _ (by omega))
     ·exact mk_sound hm (by simp [cellsAt, hcl]) (cells_sound h4 (by omega) (fun p hp => ho p (List.mem_cons_of_mem _ hp)))
   ·rename_i t' o p k off
    split at hp
    ·rename_i e ks n cells hnode
     split at hp
     ·cases hp
     ·rename_i hcl
      rw [Option.map_eq_some_iff] at hp
      obtain ⟨V', hm, he⟩ := hp
      simp only [Prod.mk.injEq] at he
      obtain ⟨rfl, rfl⟩ := he
      have hcl2 : ti.cells.length = ti.size := by
       by_cases hh : ti.cells.length = ti.size
       ·exact hh
       ·exact absurd (.inl hh) hcl
      have hfit : off + ti.size ≤ szOf T e := Nat.le_of_not_lt fun hh => hcl (.inr hh)
      have hle : plus (std P T) k ti.size ≤ cells.length := ho _ (List.mem_cons_self ..)
      rw [plus_std] at hle
      obtain ⟨sh, c, hh, k1, k2, rfl, rfl⟩ := nodeAt_eq hnode
      obtain ⟨sh', c', hh', q, e2, ks2, g, n2, cap, m1, m2, m3, m4, m5, m6, ⟨i0, m7⟩, rfl⟩ := hu
      rw [k1] at m1; cases m1
      rw [k2] at m4; cases m4
      obtain ⟨t1, _, _, _⟩ := h.cell k1
      obtain ⟨hp', u, g1, _, _⟩ := CRepT.get p t1 m2 m3
      rw [k2] at g1
      rcases g1.sl_cases (fun hb => by rw [m5] at hb; cases hb) with ⟨_, _, _, q4, _⟩ | ⟨g', cap', xs, q1, q2, q3, q4, q5, q6, _, q8⟩
      ·rw [m5] at q4; cases q4
      ·rw [m5] at q1; cases q1
       rw [q2] at q3
       obtain ⟨hcell, _⟩ := ownsRow_cell q3
       have hgb : g ∈ (ph t' o).blks := Pv.get_blks p m2 g (by obtain ⟨v0, b0, ks0⟩ := q; cases (show b0 = some g from m5); exact mem_blks.2 (.inl rfl))
       have hsame : ∀ w', Keep S st.r bx ph w w' → ∀ k, w'.cell? ⟨g, k, none⟩ = w.cell? ⟨g, k, none⟩ := fun w' hk k =>
        World.cell?_of_block (hk.2 t' (some o) g (own_blk k1 hgb))
       refine ⟨_, fun w' hk => run_loadVar_any hT ht hsz _ (fun i => xs.getD (k + i) undef) w' (fun i hi => ?_), ?_⟩
       ·rw [Addr.add_lit]
        have hx : k + i < xs.length := by omega
        refine (hsame w' hk _).trans ((hcell _ hx).trans ?_)
        rw [List.getD_eq_getElem?_getD, List.getElem?_eq_getElem hx]; rfl
       ·exact mk_sound hm (by simp [tpCells, hcl2]) (tp_sound k1 m2 m3 k2 m7 (by omega) q5 q4 (by omega) q8 (fun p hp => ho p (List.mem_cons_of_mem _ hp)))
    ·cases hp
   ·cases hp
 ·cases hp
end Go.Proofs.Ytcpcghnpoekhpaa.A
set_option linter.unusedSimpArgs false
set_option linter.unusedVariables false
set_option maxRecDepth 100000
set_option maxHeartbeats 4000000
namespace Go.Proofs.Ytcpcghnpoekhpaa.A
open Go Go.RowKit
variable {P : Program} {T : TT} {w w0 : World} {S S0 : Nat → Prop} {F : Fr} {bx : Nat → Nat} {ph : Nat → Nat → Pv} {a : Act} {st st' : St}
theorem kkOf_cases {t : TypeId} {kk : KK} (h : kkOf T t = some kk) : (∃ k, descOf T t = .int k ∧ kk = .int k) ∨ (descOf T t = .string ∧ kk = .str) := by
 unfold kkOf at h
 split at h
 ·cases h; exact .inl ⟨_, by assumption, rfl⟩
 ·cases h; exact .inr ⟨by assumption, rfl⟩
 ·cases h
theorem kidx_cons (k x : Value) (ks : List Value) : kidx (x :: ks) k = if keq k x = true then some 0 else (kidx ks k).map (· + 1) := by
 unfold kidx; rw [List.findIdx?_cons]
theorem sameNow_ok {kk : KK} {d : TypeDesc} (hd : (∃ k, d = .int k ∧ kk = .int k) ∨ (d = .string ∧ kk = .str)) {a b : Value} (ha : kk.ok a = true) (hb : kk.ok b = true) : Instr.sameNow d a b = some (keq a b) := by
 rcases hd with ⟨k, rfl, rfl⟩ | ⟨rfl, rfl⟩
 ·cases a <;> simp [KK.ok] at ha; cases b <;> simp [KK.ok] at hb
  subst ha; subst hb
  simp only [Instr.sameNow, if_pos, keq]
  congr 1
 ·cases a <;> simp [KK.ok] at ha; cases b <;> simp [KK.ok] at hb
  simp only [Instr.sameNow, keq]
  congr 1
  rw [Bool.eq_iff_iff, beq_toListBytes, beq_iff_eq, ByteArray.toList_eq, ByteArray.toList_eq]; simp only [decide_eq_true_eq]
  exact ⟨fun h => ByteArray.ext (Array.toList_inj.1 h), fun h => by rw [h]⟩
theorem findNow_ok {kk : KK} {d : TypeDesc} (hd : (∃ k, d = .int k ∧ kk = .int k) ∨ (d = .string ∧ kk = .str)) {k : Value} (hk : kk.ok k = true) : ∀ (es : List MapEntry) (i : Nat), (∀ e ∈ es, kk.ok e.key = true) →
  Instr.findNow d k es i = some ((kidx (es.map MapEntry.key) k).map fun n => (i + n, ((es[n]?).map (·.val)).getD undef)) := by
 intro es
 induction es with
 | nil => intro i _; rfl
 | cons e es ih =>
  intro i hall
  unfold Instr.findNow
  rw [sameNow_ok hd hk (hall e (List.mem_cons_self ..)), List.map_cons, kidx_cons]
  cases hq : keq k e.key with
  | true => simp
  | false =>
   simp only [Bool.false_eq_true, if_false]
   rw [ih (i + 1) (fun e he => hall e (List.mem_cons_of_mem _ he))]
   cases kidx (es.map MapEntry.key) k with
   | none => rfl
   | some n => simp [Nat.add_assoc, Nat.add_comm 1 n]
theorem run_findKey (hT : TOk P T) {kt : TypeId} {kk : KK} (hk : kkOf T kt = some kk) {k : Value} (hok : kk.ok k = true) (es : List MapEntry) (hall : ∀ e ∈ es, kk.ok e.key = true) (w : World) :
  (Instr.findKey kt k es).run P w = .ok ((kidx (es.map MapEntry.key) k).map fun n => (n, ((es[n]?).map (·.val)).getD undef)) w := by
 have hd := kkOf_cases hk
 have hu : P.underlying kt = some (descOf T kt) := by
  rcases hd with ⟨q, h, _⟩ | ⟨h, _⟩ <;> exact desc_of hT rfl (by rw [h]; simp)
 unfold Instr.findKey
 simp only [Sem.run_bind, run_underlying hu, Result.andThen_ok]
 rw [findNow_ok hd hok es 0 hall]
 simp only [Sem.run_pure, Nat.zero_add]
theorem run_checkKey (hT : TOk P T) {kt : TypeId} {kk : KK} (hk : kkOf T kt = some kk) {k : Value} (b : Bool) (w : World) : (Instr.checkKey b 10000 kt k).run P w = .ok () w := by
 have hd := kkOf_cases hk
 unfold Instr.checkKey
 rcases hd with ⟨q, h, _⟩ | ⟨h, _⟩
 ·have hu : P.underlying kt = some (.int q) := desc_of hT h (by simp)
  simp [Sem.run_bind, run_underlying hu]
 ·have hu : P.underlying kt = some .string := desc_of hT h (by simp)
  simp [Sem.run_bind, run_underlying hu]
theorem mapTy_desc (hT : TOk P T) {t : TypeId} {kk : KK} {te : TI} (h : mapTy T t = some (kk, te)) : ∃ k e, P.underlying t = some (.map k e) ∧ kkOf T k = some kk ∧ T e = some te ∧ te.size = 1 ∧ isAggD te.desc = false := by
 unfold mapTy at h
 split at h
 ·rename_i k e hd
  split at h
  ·rename_i kk' te' hk he
   split at h
   ·rename_i hc
    cases h
    exact ⟨k, e, desc_of hT hd (by simp), hk, he, hc.1, hc.2⟩
   ·cases h
  ·cases h
 ·cases h
theorem run_zero (hT : TOk P T) {e : TypeId} {te : TI} (he : T e = some te) (w : World) : (zeroValue e).run P w = .ok te.zero w := by
 obtain ⟨_, i, h2, _, _, h5, _⟩ := hT e te he
 simp [zeroValue, typeInfo, h2, h5]
theorem zeroC_sound {te : TI} {z : C} (h : zeroC te = some z) : CRep w S te.zero z := by
 unfold zeroC at h
 split at h
 ·rename_i c hc
  cases h
  have h1 := const_sound (T := fun _ => none) (w := w) (S := S) (bx := fun _ => 0) (ph := fun _ _ => default) (r := []) te.zero
  rw [hc] at h1; exact h1
 ·cases h
theorem get_sound {es : Array MapEntry} {ks : List Value} {cs : List C} {us : Nat → Value} {k zv : Value} {z : C} (hk : es.toList.map MapEntry.key = ks) (hl : cs.length = ks.length) (hv : ∀ i (h : i < es.size), es[i].val = us i)
  (hr : ∀ i (h : i < cs.length), CRep w S (us i) cs[i]) (hz : CRep w S zv z) : CRep w S (match kidx ks k with | some n => ((es.toList[n]?).map (·.val)).getD undef | none => zv) (mgetC ks cs k z) := by
 unfold mgetC
 cases hq : kidx ks k with
 | none => exact hz
 | some n =>
  have hn : n < ks.length := (List.findIdx?_eq_some_iff_findIdx_eq.1 hq).1
  have hn2 : n < es.size := by
   have : es.toList.length = ks.length := by rw [← hk]; simp
   rw [Array.length_toList] at this; omega
  have hn3 : n < cs.length := by omega
  dsimp only
  have e1 : ((es.toList[n]?).map (·.val)).getD undef = us n := by
   rw [Array.getElem?_toList, Array.getElem?_eq_getElem hn2]; exact hv n hn2
  rw [e1, List.getD_eq_getElem?_getD, List.getElem?_eq_getElem hn3]
  exact hr n hn3
theorem run_gm {b clock : Nat} {es : Array MapEntry} (hb : w.heap[b]? = some (.map es clock)) : (getObj b).run P w = .ok (.map es clock) w := by simp [getObj, Sem.run, hb]
theorem run_lookup (hT : TOk P T) {t : TypeId} {kk : KK} {te : TI} (ht : mapTy T t = some (kk, te)) {b clock : Nat} {es : Array MapEntry} {ks : List Value} {k : Value} (hb : w.heap[b]? = some (.map es clock))
    (hk : es.toList.map MapEntry.key = ks) (hall : ∀ k ∈ ks, kk.ok k = true) (hok : kk.ok k = true) (c : Bool) :
    (Instr.lookup t (.map (some b)) k c).run P w = .ok (if c = true then .tuple #[(match kidx ks k with | some n => ((es.toList[n]?).map (·.val)).getD undef | none => te.zero), .bool (mhasC ks k)] else
      (match kidx ks k with | some n => ((es.toList[n]?).map (·.val)).getD undef | none => te.zero)) w := by
  obtain ⟨kt, e, h1, h2, h3, _, _⟩ := mapTy_desc hT ht
  have hf := run_findKey hT h2 hok es.toList (fun e he => hall _ (by rw [← hk]; exact List.mem_map.2 ⟨e, he, rfl⟩)) w
  rw [hk] at hf
  unfold Instr.lookup
  simp only [Sem.run_bind, run_underlying h1, Result.andThen_ok, run_gm hb, Sem.run_pure, run_checkKey hT h2, hf]
  unfold mhasC
  cases kidx ks k with
  | none => cases c <;> simp [run_zero hT h3]
  | some n => cases c <;> simp
theorem run_lookup_nil (hT : TOk P T) {t : TypeId} {kk : KK} {te : TI} (ht : mapTy T t = some (kk, te)) {k : Value} (hok : kk.ok k = true) (c : Bool) (w : World) :
  (Instr.lookup t (.map none) k c).run P w = .ok (if c = true then .tuple #[te.zero, .bool false] else te.zero) w := by
 obtain ⟨kt, e, h1, h2, h3, _, _⟩ := mapTy_desc hT ht
 have hf := run_findKey hT h2 hok [] (fun e he => absurd he (by simp)) w
 unfold Instr.lookup
 simp only [Sem.run_bind, run_underlying h1, Result.andThen_ok, Sem.run_pure, run_checkKey hT h2, hf, Array.toList_empty]
 cases c <;> simp [run_zero hT h3, kidx]
theorem own_map {r : List Root} {t o : Nat} {kk : KK} {m : GM} {w' : World} (h : Heap T w S r bx ph) (hc : (r.getD t .none).row[o]? = some (.map kk m)) (hk : Keep S r bx ph w w') : RCRep T w' S (ph t o) (.map kk m) :=
 (h.cell hc).frame hk.1 (fun _ h => h) fun b hb => hk.2 t (some o) b (own_blk hc hb)
theorem keyOf_sound {r : List Root} {v : Value} {V : V} {k : Value} (h : VRep T w S r bx ph v V) (hk : keyOf V = some k) : v = k := by
 unfold keyOf at hk
 split at hk
 ·cases hk; exact (crep_val h).1
 ·cases hk
theorem look_put {r : List Root} {kd : K} {c : C} {b ok : Bool} {zv : Value} {V1 : V} {obl obl' : List Prop} (hp : (if ok then some (A.V.tup [(false, [X.c (shape (std P T) kd c)]), (false, [X.c (C.val (Value.bool b))])], obl') else some (A.V.one (.c (shape (std P T) kd c)), obl')) = some (V1, obl))
  (hc : CRep w S zv c) (hk : okK kd c) : VRep T w S r bx ph (if ok = true then .tuple #[zv, .bool b] else zv) V1 := by
 have h1 : CRep w S zv (shape (std P T) kd c) := shape_sound hc hk
 cases ok with
 | true =>
  simp only [if_true, Option.some.injEq, Prod.mk.injEq] at hp ⊢
  obtain ⟨rfl, _⟩ := hp
  refine ⟨_, rfl, rfl, fun k hk hk2 => ?_⟩
  match k, hk with
  | 0, _ => exact ⟨_, rfl, h1⟩
  | 1, _ => exact ⟨_, rfl, CRep.val rfl⟩
 | false =>
  simp only [Bool.false_eq_true, if_false, Option.some.injEq, Prod.mk.injEq] at hp ⊢
  obtain ⟨rfl, _⟩ := hp
  exact h1
end Go.Proofs.Ytcpcghnpoekhpaa.A
/- The ghost machine, part 12: structs built; all operations that make and change nothing. -/
set_option linter.unusedSimpArgs false
set_option linter.unusedVariables false
set_option maxRecDepth 100000
set_option maxHeartbeats 4000000
namespace Go.Proofs.Ytcpcghnpoekhpaa.A
open Go Go.RowKit
variable {P : Program} {T : TT} {w w0 : World} {S S0 : Nat → Prop} {F : Fr} {bx : Nat → Nat} {ph : Nat → Nat → Pv} {a : Act} {st st' : St}
theorem splice_get (off : Nat) : ∀ (vs : List Value) (s : Nat) (cs : Array Value), ((vs.zipIdx s).foldl (fun cs p => cs.setIfInBounds (off + p.2) p.1) cs).size = cs.size ∧
  ∀ k, ((vs.zipIdx s).foldl (fun cs p => cs.setIfInBounds (off + p.2) p.1) cs)[k]? = if off + s ≤ k ∧ k < off + s + vs.length ∧ k < cs.size then vs[k - (off + s)]? else cs[k]? := by
 intro vs
 induction vs with
 | nil => intro s cs; refine ⟨rfl, fun k => ?_⟩; rw [if_neg (by simp; omega)]; rfl
 | cons v vs ih =>
  intro s cs
  rw [List.zipIdx_cons, List.foldl_cons]
  obtain ⟨h1, h2⟩ := ih (s + 1) (cs.setIfInBounds (off + s) v)
  refine ⟨by rw [h1]; simp, fun k => ?_⟩
  rw [h2 k, Array.getElem?_setIfInBounds]
  simp only [Array.size_setIfInBounds, List.length_cons]
  by_cases e : k = off + s
  ·subst e
   rw [if_neg (by omega), if_pos rfl]
   by_cases h3 : off + s < cs.size
   ·rw [if_pos h3, if_pos (by omega)]; simp
   ·rw [if_neg h3, if_neg (by omega)]; simp; omega
  ·rw [if_neg (show ¬ off + s = k by omega)]
   by_cases h3 : off + (s + 1) ≤ k ∧ k < off + (s + 1) + vs.length ∧ k < cs.size
   ·rw [if_pos h3, if_pos (by omega)]
    rw [show k - (off + s) = (k - (off + (s + 1))) + 1 by omega]; rfl
   ·rw [if_neg h3, if_neg (by omega)]
theorem cells_one (h : Heap T w S st.r bx ph) {v : Value} {x : X} (hx : x ≠ .undef) (hr : XRep T w S st.r bx ph v x) : v.cells = #[v] := by
 cases x with
 | c c =>
  have hr' : CRep w S v c := hr
  cases hr' with
  | val hp => cases v <;> first | rfl | (simp [plain] at hp)
  | nil => rfl
  | sl0 => rfl
  | sl _ _ _ _ _ => rfl
  | mem _ _ _ _ => rfl
  | map0 => rfl
  | map _ _ _ _ _ _ _ _ => rfl
 | mv t o =>
  obtain ⟨kk, m, h1, rfl⟩ := hr
  obtain ⟨b, q1, _⟩ := h.cell h1
  rw [q1]; rfl
 | view t o =>
  obtain ⟨e, n, cells, h1, rfl⟩ := hr
  rcases own_form (h.cell h1) with ⟨q1, _⟩ | ⟨g, cap, q1, _⟩ <;> (rw [q1]; rfl)
 | sub t o lo hi => obtain ⟨_, _, _, _, _, _, _, _, _, _, rfl, _⟩ := hr; rfl
 | ptr t o => obtain ⟨_, _, _, rfl⟩ := hr; rfl
 | eptr t o k => obtain ⟨_, _, _, _, _, _, _, rfl⟩ := hr; rfl
 | mem cells off => obtain ⟨_, _, _, rfl, _⟩ := hr; rfl
 | fn f caps => obtain ⟨rfl, _⟩ := hr; rfl
 | bfn f t => obtain ⟨_, rfl⟩ := hr; rfl
 | tv t o p => obtain ⟨_, _, _, rfl⟩ := tv_slice h hr; rfl
 | tp t o p k off => obtain ⟨_, _, _, _, _, _, _, _, _, _, _, _, _, _, _, _, rfl⟩ := hr; rfl
 | undef => exact absurd rfl hx
theorem cellsOf_sound (h : Heap T w S st.r bx ph) {v : Value} {V : V} (hv : VRep T w S st.r bx ph v V) (hne : cellsOfV V ≠ []) : XsRep T w S st.r bx ph v.cells (cellsOfV V) := by
 have one : ∀ x, x ≠ .undef → XRep T w S st.r bx ph v x → XsRep T w S st.r bx ph v.cells [x] := fun x hx hr => by
  rw [cells_one h hx hr]
  refine ⟨rfl, fun k hk hk2 => ?_⟩
  have : k = 0 := by simpa using hk
  subst this; exact hr
 cases V with
 | one x => cases x <;> first | exact absurd rfl hne | exact one _ (by simp) hv
 | agg xs => obtain ⟨cs, rfl, h2⟩ := hv; exact h2
 | tup vs => exact absurd rfl hne
 | undef => exact absurd rfl hne
 | nop => exact absurd rfl hne
theorem fill_sound (hT : TOk P T) (h : Heap T w S st.r bx ph) {fields : Array Field} {place : Nat → Option (Nat × Nat)} (hpl : ∀ (i : Nat) (fd : Field) (tf : TI), fields[i]? = some fd → T fd.type = some tf → place i = some (fd.offset, tf.size)) :
    ∀ (ps : List (Nat × V)) (vs : List (Nat × Value)) (cells : Array Value) (xs xs' : List X), vs.length = ps.length → (∀ k (h1 : k < ps.length) (h2 : k < vs.length), vs[k].1 = ps[k].1 ∧ VRep T w S st.r bx ph vs[k].2 ps[k].2) →
      XsRep T w S st.r bx ph cells xs → buildX T fields xs ps = some xs' → ∃ cells', Instr.fill place cells vs = some cells' ∧ XsRep T w S st.r bx ph cells' xs' := by
  intro ps
  induction ps with
  | nil =>
    intro vs cells xs xs' hl _ hx hb
    have : vs = [] := List.eq_nil_of_length_eq_zero hl
    subst this
    simp only [buildX, Option.some.injEq] at hb
    subst hb
    exact ⟨cells, rfl, hx⟩
  | cons p ps ih =>
    intro vs cells xs xs' hl hv hx hb
    cases vs with
    | nil => simp at hl
    | cons q vs =>
      obtain ⟨i, V⟩ := p
      obtain ⟨i', v⟩ := q
      obtain ⟨h1, h2⟩ := hv 0 (by simp) (by simp)
      simp only [List.getElem_cons_zero] at h1 h2
      subst h1
      unfold buildX at hb
      split at hb
      · rename_i fd hfd
        split at hb
        · rename_i tf htf
          split at hb
          · rename_i hc
            obtain ⟨c1, c2, c3⟩ := hc
            have hcs := cellsOf_sound h h2 c3
            obtain ⟨s1, s2⟩ := splice_get fd.offset v.cells.toList 0 cells
            have hsz : v.cells.size = tf.size := by rw [hcs.1, c1]
            have hX : XsRep T w S st.r bx ph (v.cells.zipIdx.foldl (fun cs p => cs.setIfInBounds (fd.offset + p.2) p.1) cells) (xs.take fd.offset ++ cellsOfV V ++ xs.drop (fd.offset + (cellsOfV V).length)) := by
              have e1 : v.cells.zipIdx.foldl (fun cs p => cs.setIfInBounds (fd.offset + p.2) p.1) cells = (v.cells.toList.zipIdx 0).foldl (fun cs p => cs.setIfInBounds (fd.offset + p.2) p.1) cells := by
                rw [← Array.foldl_toList]; simp
              rw [e1]
              refine ⟨?_, fun k hk hk2 => ?_⟩
              · rw [s1, hx.1]
                simp only [List.length_append, List.length_take, List.length_drop]; omega
              · have h3 := s2 k
                rw [Array.getElem?_eq_getElem hk2] at h3
                simp only [Nat.add_zero, Array.length_toList] at h3
                have hk' : k < xs.length := by
                  simp only [List.length_append, List.length_take, List.length_drop] at hk; omega
                have hkc : k < cells.size := by rw [hx.1]; exact hk'
                by_cases hin : fd.offset ≤ k ∧ k < fd.offset + v.cells.size
                · rw [if_pos ⟨hin.1, hin.2, hkc⟩] at h3
                  have h4 : k - fd.offset < v.cells.size := by omega
                  have e2 : (v.cells.toList)[k - fd.offset]? = some v.cells[k - fd.offset] := by simp [h4]
                  rw [e2] at h3
                  have h5 := hcs.2 (k - fd.offset) (by rw [← hcs.1]; exact h4) h4
                  have e3 : (xs.take fd.offset ++ cellsOfV V ++ xs.drop (fd.offset + (cellsOfV V).length))[k] = (cellsOfV V)[k - fd.offset]'(by rw [← hcs.1]; exact h4) := by
                    rw [List.getElem_append_left (by simp only [List.length_append, List.length_take]; rw [← hcs.1]; omega)]
                    rw [List.getElem_append_right (by simp only [List.length_take]; omega)]
                    congr 1
                    simp only [List.length_take]; omega
                  rw [e3]
                  rw [Option.some.inj h3]
                  exact h5
                · rw [if_neg (by omega)] at h3
                  rw [Array.getElem?_eq_getElem hkc] at h3
                  rw [Option.some.inj h3]
                  have h5 := hx.2 k hk' hkc
                  by_cases hlt : k < fd.offset
                  · have e3 : (xs.take fd.offset ++ cellsOfV V ++ xs.drop (fd.offset + (cellsOfV V).length))[k] = xs[k] := by
                      rw [List.getElem_append_left (by simp only [List.length_append, List.length_take]; omega)]
                      rw [List.getElem_append_left (by simp only [List.length_take]; omega)]
                      simp
                    rw [e3]; exact h5
                  · have e3 : (xs.take fd.offset ++ cellsOfV V ++ xs.drop (fd.offset + (cellsOfV V).length))[k] = xs[k] := by
                      rw [List.getElem_append_right (by simp only [List.length_append, List.length_take]; rw [← hcs.1]; omega)]
                      rw [List.getElem_drop]
                      congr 1
                      simp only [List.length_append, List.length_take]; rw [← hcs.1]; omega
                    rw [e3]; exact h5
            obtain ⟨cells', hh⟩ := ih vs _ _ xs' (by simpa using hl) (fun k hk hk2 => hv (k + 1) (by simp; omega) (by simp; omega)) hX hb
            refine ⟨cells', ?_, hh.2⟩
            simp only [Instr.fill]
            rw [hpl _ fd tf hfd htf]
            dsimp only
            · rw [if_neg (by
                have : cells.size = xs.length := hx.1
                have h7 : v.cells.size = (cellsOfV V).length := hcs.1
                simp only [ne_eq, Bool.or_eq_true, decide_eq_true_eq, not_or]
                constructor
                · simpa using hsz
                · omega)]
              exact hh.1
          · cases hb
        · cases hb
      · cases hb
theorem build_sound (hT : TOk P T) (h : Heap T w S st.r bx ph) {t : TypeId} {ps : List (Nat × V)} {vs : Array (Nat × Value)} {V : V} {obl : List Prop} (hl : vs.size = ps.length)
  (hv : ∀ k (h1 : k < ps.length) (h2 : k < vs.toList.length), vs.toList[k].1 = ps[k].1 ∧ VRep T w S st.r bx ph vs.toList[k].2 ps[k].2)
  (hp : buildV T t ps = some (V, obl)) : ∃ z, (∀ w' : World, (Instr.build t vs).run P w' = .ok z w') ∧ VRep T w S st.r bx ph z V := by
 unfold buildV at hp
 split at hp
 ·rename_i ti ht
  obtain ⟨h1, i, h2, h3, h4, h5, _⟩ := hT t ti ht
  split at hp
  ·rename_i fields zs hd hz
   split at hp
   ·rename_i hall
    split at hp
    ·rename_i xs hb
     cases hp
     rw [hd] at h1
     have hzr := const_sound (T := T) (w := w) (S := S) (bx := bx) (ph := ph) (r := st.r) ti.zero
     rw [hz] at hzr
     obtain ⟨zc, hzv, hzx⟩ := hzr
     have hpl : ∃ places : List (Nat × Nat), fields.toList.mapM (fun f => (P.info? f.type).map fun i => (f.offset, i.size)) = some places ∧ ∀ (i : Nat) (fd : Field) (tf : TI), fields[i]? = some fd → T fd.type = some tf → places[i]? = some (fd.offset, tf.size) := by
      have key : ∀ fs : List Field, fs.all (fun f => (T f.type).isSome) = true → ∃ places : List (Nat × Nat), fs.mapM (fun f => (P.info? f.type).map fun i => (f.offset, i.size)) = some places ∧ ∀ (i : Nat) (fd : Field) (tf : TI), fs[i]? = some fd → T fd.type = some tf → places[i]? = some (fd.offset, tf.size) := by
       intro fs
       induction fs with
       | nil => intro _; exact ⟨[], by simp, fun i fd tf h => by simp at h⟩
       | cons f fs ih =>
        intro hall
        simp only [List.all_cons, Bool.and_eq_true] at hall
        obtain ⟨pl, p1, p2⟩ := ih hall.2
        obtain ⟨tf, htf⟩ := Option.isSome_iff_exists.1 hall.1
        obtain ⟨_, i, q1, q2, _⟩ := hT f.type tf htf
        refine ⟨(f.offset, i.size) :: pl, by simp [List.mapM_cons, q1, p1], fun k fd tf' hk htf' => ?_⟩
        cases k with
        | zero =>
         simp at hk; subst hk
         rw [htf] at htf'; cases htf'
         simp [q2]
        | succ k => simp at hk ⊢; exact p2 k fd tf' hk htf'
      obtain ⟨pl, p1, p2⟩ := key fields.toList hall
      exact ⟨pl, p1, fun i fd tf hi ht => p2 i fd tf (by simpa using hi) ht⟩
     obtain ⟨places, p1, p2⟩ := hpl
     obtain ⟨cells', f1, f2⟩ := fill_sound hT h (fields := fields) (place := fun i => places.toArray[i]?) (fun i fd tf hi ht => by simpa using p2 i fd tf hi ht) ps vs.toList zc zs xs (by simpa using hl) hv hzx hb
     refine ⟨.agg cells', fun w' => run_build w' t vs cells' ?_, ⟨cells', rfl, f2⟩⟩
     simp only [Program.built, h2, h1, h5, p1, hzv, Value.cells]
     exact f1
    ·cases hp
   ·cases hp
  ·cases hp
 ·cases hp
def reads (st : St) (o : Oper) : Bool :=
 match o.op with
 | .load _ _ => true
 | .convert _ _ x => match ev st.s x with | .one (.c (.val _)) => false | _ => true
 | .lookup _ _ _ _ => true
 | .call { callee := .builtin .len, args, .. } =>
  match args.toList with
  | [x] => match ev st.s x with | .one (.mv _ _) | .one (.c (.map _ _ _)) => true | _ => false
  | _ => false
 | _ => false
theorem lookOp_sound (hT : TOk P T) (h : Rel T w0 S0 F st a w S bx ph) {o : Oper} {V1 : V} {obl : List Prop} (hp : lookOp T (std P T) st o = some (V1, obl)) (ho : ∀ p ∈ obl, p) :
  ∃ z, (∀ w' : World, (reads st o = false ∨ Keep S st.r bx ph w w') → (execOp a.eval o).run P w' = .ok (.value z) w') ∧ VRep T w S st.r bx ph z V1 := by
 obtain ⟨dst, op, type, pos, after, guard⟩ := o
 unfold lookOp at hp
 dsimp only at hp
 split at hp
 ·rename_i t x k c
  split at hp
  ·rename_i kk te k' hty hkey
   split at hp
   ·rename_i z kd hz hkd
    have hkv := keyOf_sound (ev_sound h k) hkey
    have hxr := ev_sound h x
    split at hp
    ·rename_i t' o' hx
     rw [hx] at hxr
     obtain ⟨kk2, m2, hc, hv⟩ := hxr
     split at hp
     ·rename_i kk' m hm
      split at hp
      ·rename_i hcond
       obtain ⟨rfl, hok⟩ := hcond
       have hc2 := mapAt_eq hm
       obtain ⟨b, q1, es, q2, q3, q4, q5, q6⟩ := h.heap.cell hc2
       have hobl : okK kd (mgetC m.ks m.vs k' z) := by
        refine ho _ ?_
        cases c <;> (simp only [Bool.false_eq_true, if_false, if_true, Option.some.injEq, Prod.mk.injEq] at hp; rw [← hp.2]; exact List.mem_cons_self ..)
       refine ⟨_, fun w' hk => ?_, look_put (P := P) hp (get_sound (us := fun i => (es.getD i default).val) q3 m.l1 (fun i hi => by simp [hi]) (fun i hi => ?_) (zeroC_sound hz)) hobl⟩
       ·have hk' : Keep S st.r bx ph w w' := by
         rcases hk with hk | hk
         ·simp [reads] at hk
         ·exact hk
        have hrep := own_map h.heap hc2 hk'
        obtain ⟨b', r1, es', r2, r3, _, _, r6⟩ := hrep
        rw [q1] at r1; cases r1
        have hb : w'.heap[b]? = some (.map es m.clock) := (hk'.2 t' (some o') b (own_blk hc2 (by show ownB (ph t' o').v = _; rw [q1]; rfl))).trans q2
        have := run_lookup (P := P) hT hty hb q3 q6 hok c
        simp [execOp, hv, q1, hkv, this]
        rfl
       ·have hi2 : i < es.size := by
         have : es.toList.length = m.ks.length := by rw [← q3]; simp
         have h2 := m.l1
         rw [Array.length_toList] at this; omega
        have := q5 i hi2 hi
        simpa [hi2] using this
      ·cases hp
     ·cases hp
    ·rename_i kk' ks vs hx
     rw [hx] at hxr
     have hxr' : CRep w S (a.eval x) (.map kk' ks vs) := hxr
     split at hp
     ·rename_i hcond
      obtain ⟨rfl, hok⟩ := hcond
      have hobl : okK kd (mgetC ks vs k' z) := by
       refine ho _ ?_
       cases c <;> (simp only [Bool.false_eq_true, if_false, if_true, Option.some.injEq, Prod.mk.injEq] at hp; rw [← hp.2]; exact List.mem_cons_self ..)
      generalize hav : a.eval x = av at hxr'
      cases hxr' with
      | map0 =>
       have hz2 : CRep w S te.zero (mgetC [] [] k' z) := zeroC_sound hz
       refine ⟨_, fun w' hk => ?_, look_put (P := P) (zv := te.zero) hp hz2 hobl⟩
       have := run_lookup_nil (P := P) hT hty hok c w'
       have e0 : mhasC [] k' = false := rfl
       simp [execOp, hav, hkv, this, std, e0]
      | map us r1 r2 r3 r4 r5 r6 r7 =>
       rename_i b clock es
       refine ⟨_, fun w' hk => ?_, look_put (P := P) hp (get_sound r3 r4 r5 r6 (zeroC_sound hz)) hobl⟩
       have hk' : Keep S st.r bx ph w w' := by
        rcases hk with hk | hk
        ·simp [reads] at hk
        ·exact hk
       have := run_lookup (P := P) hT hty ((hk'.1 b r1).trans r2) r3 r7 hok c
       simp [execOp, hav, hkv, this]
       rfl
     ·cases hp
    ·cases hp
   ·cases hp
  ·cases hp
 ·rename_i args ats
  split at hp
  ·rename_i x t hx ht
   obtain ⟨args⟩ := args
   obtain ⟨ats⟩ := ats
   simp only at hx ht
   subst hx; subst ht
   have hxr := ev_sound h x
   split at hp
   ·rename_i kt et t' o' hd hev
    rw [hev] at hxr
    obtain ⟨kk2, m2, hc, hv⟩ := hxr
    split at hp
    ·rename_i kk m hm
     cases hp
     have hc2 := mapAt_eq hm
     obtain ⟨b, q1, es, q2, q3, _⟩ := h.heap.cell hc2
     have hlen : es.size = m.ks.length := by
      have : es.toList.length = m.ks.length := by rw [← q3]; simp
      rwa [Array.length_toList] at this
     refine ⟨.int .i64 (m.ks.length : Int), fun w' hk => ?_, CRep.val rfl⟩
     have hk' : Keep S st.r bx ph w w' := by
      rcases hk with hk | hk
      ·simp [reads, hev] at hk
      ·exact hk
     have hb : w'.heap[b]? = some (.map es m.clock) := (hk'.2 t' (some o') b (own_blk hc2 (by show ownB (ph t' o').v = _; rw [q1]; rfl))).trans q2
     have hu : P.underlying t = some (.map kt et) := desc_of hT hd (by simp)
     simp [execOp, resolve, invoke, builtin, hv, q1, Builtin.len_, run_underlying hu, run_gm hb, goInt, hlen]
    ·cases hp
   ·rename_i kt et kk ks vs hd hev
    rw [hev] at hxr
    cases hp
    have hu : P.underlying t = some (.map kt et) := desc_of hT hd (by simp)
    have hxr' : CRep w S (a.eval x) (.map kk ks vs) := hxr
    generalize hav : a.eval x = av at hxr'
    refine ⟨.int .i64 (ks.length : Int), fun w' hk => ?_, CRep.val rfl⟩
    have hk' : Keep S st.r bx ph w w' := by
     rcases hk with hk | hk
     ·simp [reads, hev] at hk
     ·exact hk
    cases hxr' with
    | map0 => simp [execOp, resolve, invoke, builtin, hav, Builtin.len_, run_underlying hu, goInt]
    | map us r1 r2 r3 r4 r5 r6 r7 =>
     rename_i b clock es
     have hlen : es.size = ks.length := by
      have : es.toList.length = ks.length := by rw [← r3]; simp
      rwa [Array.length_toList] at this
     simp [execOp, resolve, invoke, builtin, hav, Builtin.len_, run_underlying hu, run_gm ((hk'.1 b r1).trans r2), goInt, hlen]
   ·cases hp
  ·cases hp
 ·cases hp
theorem brep_sound (h : Rel T w0 S0 F st a w S bx ph) (x : Option Operand) : BRep (x.map a.eval) (x.map fun l => num (ev st.s l)) := by
 cases x with
 | none => trivial
 | some x =>
  cases hn : num (ev st.s x) with
  | none => simp only [Option.map_some, hn]; trivial
  | some i =>
   simp only [Option.map_some, hn]
   exact num_sound (ev_sound h x) hn
theorem pureOp_sound (hT : TOk P T) (h : Rel T w0 S0 F st a w S bx ph) {gs : Option Bool} {o : Oper} {V : V} {obl : List Prop} (hp : pureOp T (std P T) st gs o = some (V, obl)) (ho : ∀ p ∈ obl, p) :
    ∃ z, (∀ w' : World, (reads st o = false ∨ Keep S st.r bx ph w w') → (execOp a.eval o).run P w' = .ok (.value z) w') ∧ VRep T w S st.r bx ph z V := by
  obtain ⟨dst, op, type, pos, after, guard⟩ := o
  unfold pureOp at hp
  dsimp only at hp
  split at hp
  · cases hp
    exact ⟨_, fun w' _ => by simp [execOp], ev_sound h _⟩
  · cases hp
    exact ⟨_, fun w' _ => by simp [execOp], ev_sound h _⟩
  · rename_i c x y
    split at hp
    · rename_i t g hc
      cases hp
      have hb : t = g := ho _ (List.mem_cons_self ..)
      subst hb
      have h1 := ev_sound h c
      rw [hc] at h1
      have h2 := (crep_val h1).1
      refine ⟨if t then a.eval x else a.eval y, fun w' _ => ?_, ?_⟩
      · simp [execOp, h2, asBool]
      · cases t
        · exact ev_sound h y
        · exact ev_sound h x
    · cases hp
  · rename_i x
    have h1 := ev_sound h x
    split at hp
    · rename_i t o hx
      cases hp
      rw [hx] at h1
      obtain ⟨row, q1, q2, q3⟩ := h1
      exact ⟨_, fun w' _ => by simp [execOp, q3], ⟨row, q1, q2, rfl⟩⟩
    · rename_i t o k hx
      cases hp
      rw [hx] at h1
      obtain ⟨e, n, cells, g, cap, q1, q2, q3⟩ := h1
      exact ⟨_, fun w' _ => by simp [execOp, q3], ⟨e, n, cells, g, cap, q1, q2, rfl⟩⟩
    · rename_i cells k hx
      cases hp
      rw [hx] at h1
      obtain ⟨b, base, vs, q1, q2⟩ := h1
      exact ⟨_, fun w' _ => by simp [execOp, q1], ⟨b, base, vs, rfl, q2⟩⟩
    · rename_i t o p k off hx
      cases hp
      rw [hx] at h1
      obtain ⟨sh, c, hh, q, e, ks, g, n, cap, q1, q2, q3, q4, q5, q6, q7, q8⟩ := h1
      exact ⟨_, fun w' _ => by simp [execOp, q8], ⟨sh, c, hh, q, e, ks, g, n, cap, q1, q2, q3, q4, q5, q6, q7, rfl⟩⟩
    · rename_i f caps hx
      cases hp
      rw [hx] at h1
      obtain ⟨q1, q2⟩ := h1
      exact ⟨_, fun w' _ => by simp [execOp, q1], ⟨rfl, q2⟩⟩
    · rename_i f t hx
      cases hp
      rw [hx] at h1
      obtain ⟨q1, q2⟩ := h1
      exact ⟨_, fun w' _ => by simp [execOp, q2, meV], ⟨q1, rfl⟩⟩
    · cases hp
  · rename_i bop t x y yt
    obtain ⟨z, h1, h2⟩ := bin_sound (x := x) (y := y) hT (ev_sound h x) (ev_sound h y) hp ho
    refine ⟨z, fun w' _ => ?_, h2⟩
    have := h1 w'
    simp only [execOp]
    simp only [Sem.run_bind] at this ⊢
    rw [this]; rfl
  · rename_i uop t x
    obtain ⟨z, h1, h2⟩ := un_sound (ev_sound h x) hp
    exact ⟨z, fun w' _ => by simp [execOp, h1 w'], h2⟩
  · rename_i src dst' x
    obtain ⟨z, h1, h2⟩ := conv_sound hT h.heap (ev_sound h x) hp ho
    refine ⟨z, fun w' hk => ?_, h2⟩
    have := h1 w' (hk.imp (fun hr => by
      simp only [reads] at hr
      split at hr
      · rename_i c hc; exact ⟨c, hc⟩
      · cases hr) id)
    simp [execOp, this]
  · rename_i s x f
    obtain ⟨z, h1, h2⟩ := fldAddr_sound hT (ev_sound h x) hp
    exact ⟨z, fun w' _ => by simp [execOp, h1 w'], h2⟩
  · rename_i s x f
    obtain ⟨z, h1, h2⟩ := fld_sound hT (ev_sound h x) hp
    exact ⟨z, fun w' _ => by simp [execOp, h1 w'], h2⟩
  · rename_i t x i
    obtain ⟨z, h1, h2⟩ := idxAddr_sound hT h.heap (ev_sound h x) (ev_sound h i) hp ho
    exact ⟨z, fun w' _ => by simp [execOp, h1 w'], h2⟩
  · rename_i t x i
    obtain ⟨z, h1, h2⟩ := idx_sound hT (ev_sound h x) (ev_sound h i) hp ho
    exact ⟨z, fun w' _ => by simp [execOp, h1 w'], h2⟩
  · rename_i t x lo hi
    obtain ⟨z, h1, h2⟩ := slice_sound hT h.heap (ev_sound h x) (brep_sound h lo) (brep_sound h hi) hp ho
    exact ⟨z, fun w' _ => by simp [execOp, h1 w'], h2⟩
  · rename_i x i
    have h1 := ev_sound h x
    split at hp
    · rename_i vs hx
      rw [hx] at h1
      obtain ⟨us, q1, q2, q3⟩ := h1
      split at hp
      · rename_i b xs hi
        split at hp
        · rename_i v hm
          cases hp
          obtain ⟨hi1, hi2⟩ := List.getElem?_eq_some_iff.1 hi
          have hiu : i < us.size := by omega
          have q4 := q3 i hi1 hiu
          rw [hi2] at q4
          refine ⟨us[i], fun w' _ => by simp [execOp, q1, Instr.extract, hiu], ?_⟩
          unfold PartRep at q4
          unfold mk at hm
          cases b with
          | true =>
            simp only [if_true] at q4 hm
            cases hm
            exact q4
          | false =>
            simp only [Bool.false_eq_true, if_false] at q4 hm
            obtain ⟨x, rfl, q5⟩ := q4
            cases hm
            exact q5
        · cases hp
      · cases hp
    · cases hp
  · rename_i t x
    obtain ⟨z, h1, h2⟩ := load_sound hT h.heap (ev_sound h x) hp ho
    refine ⟨z, fun w' hk => ?_, h2⟩
    rcases hk with hk | hk
    · simp [reads] at hk
    · simp [execOp, h1 w' hk]
  · rename_i args ats
    split at hp
    · rename_i x t hx ht
      split at hp
      · rename_i r hlen
        cases hp
        obtain ⟨z, h1, h2⟩ := len_sound (ty := type) hT h.heap (ev_sound h x) hlen
        refine ⟨z, fun w' _ => ?_, h2⟩
        obtain ⟨args⟩ := args
        obtain ⟨ats⟩ := ats
        simp only at hx ht
        subst hx; subst ht
        simp [execOp, resolve, invoke, builtin, h1 w']
      · exact lookOp_sound hT h hp ho
    · cases hp
  · rename_i t parts
    obtain ⟨z, h1, h2⟩ := build_sound hT h.heap (vs := parts.map fun p => (p.1, a.eval p.2)) (by simp) (fun k q1 q2 => by
      simp only [Array.toList_map, List.getElem_map]
      exact ⟨trivial, ev_sound h _⟩) hp
    exact ⟨z, fun w' _ => by simp [execOp, h1 w'], h2⟩
  · exact lookOp_sound hT h hp ho
end Go.Proofs.Ytcpcghnpoekhpaa.A
/- The ghost machine, part 13: operations that make memory: the world turns. -/
set_option linter.unusedSimpArgs false
set_option linter.unusedVariables false
set_option maxRecDepth 100000
set_option maxHeartbeats 4000000
namespace Go.Proofs.Ytcpcghnpoekhpaa.A
open Go Go.RowKit
variable {P : Program} {T : TT} {w w' w0 : World} {S S0 : Nat → Prop} {F : Fr} {bx : Nat → Nat} {ph : Nat → Nat → Pv} {a : Act} {st st' : St}
theorem Rel.world (h : Rel T w0 S0 F st a w S bx ph) {W : Nat → Prop} (hc : Chg W w w') (hW : ∀ b, b < w.heap.size → W b → ¬ S b ∧ (∀ t κ, ¬ owns st.r bx ph t κ b) ∧ (w0.heap.size ≤ b ∨ F b)) : Rel T w0 S0 F st a w' S bx ph := by
 have hS : ∀ b, S b → w'.heap[b]? = w.heap[b]? := fun b hb => hc.block b (h.heap.low.1 b hb) fun hw => (hW b (h.heap.low.1 b hb) hw).1 hb
 have hO : ∀ t κ b, owns st.r bx ph t κ b → w'.heap[b]? = w.heap[b]? := fun t κ b hb => by
  have h1 := (h.heap.free t κ b hb).2
  exact hc.block b h1 fun hw => (hW b h1 hw).2.1 t κ hb
 refine ⟨h.size, h.rsize, h.defers, ?_, h.mine, fun i hi => (h.slot i hi).mono fun v x hx => hx.frame hS fun _ h => h, h.keep, h.new, ?_⟩
 ·exact h.heap.frame hS (fun _ h => h) hO hc.size (fun t κ b hb => (h.heap.free t κ b hb).1) (fun b hb => Nat.lt_of_lt_of_le (h.heap.low.1 b hb) hc.size)
 ·refine ⟨hc.os.trans h.chg.os, hc.tape.trans h.chg.tape, hc.output.trans h.chg.output, Nat.le_trans h.chg.size hc.size, fun b hb hF => ?_⟩
  have hlt : b < w.heap.size := Nat.lt_of_lt_of_le hb h.chg.size
  rw [hc.block b hlt fun hw => by rcases (hW b hlt hw).2.2 with h1 | h1 <;> first | omega | exact hF h1]
  exact h.chg.block b hb hF
theorem Rel.put (h : Rel T w0 S0 F st a w S bx ph) (d : Nat) {z : Value} {V : V} (hV : VRep T w S st.r bx ph z V) : Rel T w0 S0 F (put st (some d) V) (a.put (some d) z) w S bx ph := by
 refine ⟨by simp [A.put, Act.put, h.size], ⟨by simp only [A.put, List.length_set]; exact h.rsize.1, fun t ht => h.rsize.2 t (by simpa [A.put] using ht)⟩, h.defers, h.heap, h.mine, fun i hi => ?_, h.keep, h.new, h.chg⟩
 have hi' : i < st.s.length := by simpa [A.put] using hi
 have h1 := h.slot i hi'
 show VRep T w S st.r bx ph ((a.tmps.setIfInBounds d z).getD i undef) ((st.s.set d V).getD i .undef)
 rw [getD_set]
 have h2 : (a.tmps.setIfInBounds d z).getD i undef = if d = i then z else a.tmps.getD i undef := by
  have hs : i < a.tmps.size := by rw [h.size]; exact hi'
  rw [Array.getD_eq_getD_getElem?, Array.getElem?_setIfInBounds, Array.getD_eq_getD_getElem?]
  by_cases e : d = i
  ·subst e; simp [hs]
  ·simp [e]
 rw [h2]
 by_cases e : d = i
 ·subst e; rw [if_pos rfl, if_pos ⟨rfl, hi'⟩]; exact hV
 ·rw [if_neg e, if_neg (fun hh => e hh.1)]; exact h1
theorem nop_put (h : Rel T w0 S0 F st a w S bx ph) (d : Option Nat) : Rel T w0 S0 F (put st d .nop) (a.put d undef) w S bx ph := by
 cases d with
 | none => exact h
 | some d => exact h.put d rfl
theorem fin_sound (h : Rel T w0 S0 F st a w S bx ph) {d : Option Nat} (hd : ∀ k, d = some k → k < st.s.length) {z : Value} {vf : Nat → V}
    (hV : ∀ k bx' ph', d = some k → (∀ o, ph' k o = ph st.s.length o) → bx' k = bx st.s.length → (name st k).r.getD k .none = st.r.getD st.s.length .none → Heap T w S (name st k).r bx' ph' → VRep T w S (name st k).r bx' ph' z (vf k)) :
    Rels T w0 S0 F (fin st d vf) (a.put d z) w := by
  cases d with
  | some d =>
    have hd' := hd d rfl
    obtain ⟨h1, h2, h3⟩ := name_rel h hd'
    have := h1.put d (hV d _ _ rfl (fun o => by simp) (by simp) h3 h1.heap)
    refine ⟨S, _, _, this, ?_⟩
    show (name st d).r.getD ((name st d).s.set d (vf d)).length .none = .none
    rw [List.length_set, show (name st d).s.length = st.s.length by simp [name, kill]]
    exact h2
  | none =>
    have hN : st.s.length < st.r.length := by have := h.rsize.1; omega
    have hg : ∀ u, (st.r.set st.s.length .none).getD u .none = if u = st.s.length then .none else st.r.getD u .none := fun u => by
      rw [getD_set]
      by_cases e : u = st.s.length
      · subst e; simp [hN]
      · rw [if_neg (fun hh => e hh.1.symm), if_neg e]
    have hown : ∀ t κ b, owns (st.r.set st.s.length .none) bx ph t κ b → t ≠ st.s.length ∧ owns st.r bx ph t κ b := fun t κ b hb => by
      by_cases e : t = st.s.length
      · subst e; exact (owns_none _ _ _ (by rw [hg, if_pos rfl]) _ _ hb).elim
      · refine ⟨e, ?_⟩
        unfold owns at hb ⊢
        rw [hg, if_neg e] at hb; exact hb
    refine ⟨S, bx, ph, ?_, ?_⟩
    · refine h.ghost (fun x => if ofRoot st.s.length x = true then .undef else x) rfl (by simp [fin]) ⟨fun u => ?_, fun t κ t' κ' b h1 h2 => h.heap.inj _ _ _ _ b (hown t κ b h1).2 (hown t' κ' b h2).2, fun t κ b h1 => h.heap.free _ _ b (hown t κ b h1).2, h.heap.low⟩
        (fun t κ b h1 => ⟨t, κ, (hown t κ b h1).2⟩) (fun v x hx => ?_) (fun _ h => h) (fun _ h => .inl h)
      · show RootRep T w S (bx u) (ph u) ((st.r.set st.s.length .none).getD u .none)
        rw [hg]; split
        · trivial
        · exact h.heap.root u
      · split
        · trivial
        · rename_i hk
          refine hx.congr (fun t o rc hc _ h1 => ?_) (fun t o he row h1 h2 => ?_) (fun f caps he t ht row h1 => ?_)
          · have n2 : t ≠ st.s.length := fun e => hk (by
              subst e
              rcases ofCell_cases hc with rfl | ⟨lo, hi, rfl⟩ | ⟨k, rfl⟩ | rfl | ⟨p, rfl⟩ | ⟨p, k, off, rfl⟩ <;> simp [ofRoot])
            refine ⟨?_, rfl⟩
            show ((st.r.set st.s.length .none).getD t .none).row[o]? = _
            rw [hg, if_neg n2]; exact h1
          · subst he
            have n2 : t ≠ st.s.length := fun e => hk (by subst e; simp [ofRoot])
            refine ⟨row, ?_, h2, rfl⟩
            show (st.r.set st.s.length .none).getD t .none = _
            rw [hg, if_neg n2]; exact h1
          · have n2 : t ≠ st.s.length := fun e => hk (by subst e; exact ofRoot_caps he ht)
            refine ⟨row, ?_, rfl, rfl⟩
            show (st.r.set st.s.length .none).getD t .none = _
            rw [hg, if_neg n2]; exact h1
    · show (st.r.set st.s.length .none).getD (kill _ st.s).length .none = .none
      rw [show (kill (ofRoot st.s.length) st.s).length = st.s.length by simp [kill], hg, if_pos rfl]
theorem pushOwn (h : Rel T w0 S0 F st a w S bx ph) (hN0 : st.r.getD st.s.length .none = .none) {rc : RC} {z : Pv} (hrc : RCRep T w S z rc)
  (hfree : ∀ b, rc.blk z b → ¬ S b ∧ b < w.heap.size ∧ (∀ t κ, ¬ owns st.r bx ph t κ b) ∧ (w0.heap.size ≤ b ∨ F b)) :
  Rel T w0 S0 F { st with r := pushR st.r st.s.length rc } a w S bx (phPush ph st.s.length 0 z) ∧ (pushR st.r st.s.length rc).getD st.s.length .none = .loose [rc] := by
 have hN : st.s.length < st.r.length := by have := h.rsize.1; omega
 have hb : ∀ row, st.r.getD st.s.length .none ≠ .box row := by rw [hN0]; exact fun _ h => by cases h
 have hl : (st.r.getD st.s.length .none).row.length = 0 := by rw [hN0]; rfl
 have hh := Heap.push h.heap hN hb hrc (fun b hb' => ⟨(hfree b hb').1, (hfree b hb').2.1, (hfree b hb').2.2.1⟩)
 rw [hl] at hh
 refine ⟨⟨h.size, ⟨by rw [length_push]; exact h.rsize.1, h.rsize.2⟩, h.defers, hh, fun t κ b hb' => ?_, fun i hi => (h.slot i hi).mono fun v x hx => ?_, h.keep, h.new, h.chg⟩, ?_⟩
 ·have := owns_push (ph := ph) (v := z) (rc := rc) (bx := bx) hN hb (u := t) (κ := κ) (b := b) (by rw [hl]; exact hb')
  rcases this with ⟨_, _, hv⟩ | ⟨h1, _⟩
  ·exact (hfree b hv).2.2.2
  ·exact h.mine t κ b h1
 ·have := XRep.push (rc := rc) (v := z) hN hb hx
  rw [hl] at this; exact this
 ·rw [getD_push hN, if_pos rfl, hN0]; rfl
theorem toBox_sound (h : Rel T w0 S0 F st a w S bx ph) {row : List RC} (hrow : (st.r.getD st.s.length .none).row = row) (hb : ∀ r, st.r.getD st.s.length .none ≠ .box r) {cs : Array Value} {e : TypeId}
  (hcs : cs.size = row.length) (hv : ∀ o, o < row.length → cs[o]? = some (ph st.s.length o).v) (hme : row.any RC.isMe = false) :
  Rel T w0 S0 F (toBox st) a (w.alloc (.cells cs e)) S (fun t => if t = st.s.length then w.heap.size else bx t) ph ∧ (toBox st).r.getD st.s.length .none = .box row := by
 have hN : st.s.length < st.r.length := by have := h.rsize.1; omega
 have hg : ∀ u, (toBox st).r.getD u .none = if u = st.s.length then .box row else st.r.getD u .none := fun u => by
  simp only [toBox, rootOf]
  rw [getD_set, hrow]
  by_cases e1 : u = st.s.length
  ·subst e1; simp [hN]
  ·rw [if_neg (fun hh => e1 hh.1.symm), if_neg e1]
 have hown : ∀ t κ b, owns (toBox st).r (fun t => if t = st.s.length then w.heap.size else bx t) ph t κ b → (t = st.s.length ∧ κ = none ∧ b = w.heap.size) ∨ owns st.r bx ph t κ b := fun t κ b hb' => by
  by_cases e1 : t = st.s.length
  ·subst e1
   cases κ with
   | none =>
    obtain ⟨_, _, h2⟩ := owns_box hb'
    exact .inl ⟨rfl, rfl, by simpa using h2⟩
   | some o =>
    obtain ⟨rc, h1, h2⟩ := owns_cell hb'
    rw [hg, if_pos rfl] at h1
    right
    exact own_blk (rc := rc) (by rw [hrow]; exact h1) h2
  ·right
   unfold owns at hb' ⊢
   rw [hg, if_neg e1] at hb'
   simp only [if_neg e1] at hb'
   exact hb'
 have hrel := h.world (w' := w.alloc (.cells cs e)) (Chg.alloc (fun _ => False) w _) (fun _ _ hf => hf.elim)
 refine ⟨⟨hrel.size, ⟨by simp only [toBox, List.length_set]; exact hrel.rsize.1, fun t ht => by have h9 : st.s.length < t := ht; rw [if_neg (by omega)]; exact hrel.rsize.2 t ht⟩, hrel.defers, ⟨fun u => ?_, fun t κ t' κ' b h1 h2 => ?_, fun t κ b h1 => ?_, hrel.heap.low⟩, fun t κ b h1 => ?_, fun i hi => (hrel.slot i hi).mono fun v x hx => ?_, hrel.keep, hrel.new, hrel.chg⟩, by rw [hg, if_pos rfl]⟩
 ·rw [hg]
  by_cases e1 : u = st.s.length
  ·subst e1
   have e0 : (if st.s.length = st.s.length then Root.box row else st.r.getD st.s.length .none) = .box row := if_pos rfl
   rw [e0]
   simp only [if_true]
   refine ⟨⟨cs, e, ?_, hcs, hv⟩, fun o ho => ?_, fun o f ho => (noMe_get hme ho).elim⟩
   ·show (w.heap.push _)[_]? = _
    simp
   ·refine hrel.heap.cell (t := st.s.length) (o := o) ?_
    rw [hrow, List.getElem?_eq_getElem ho]
  ·rw [if_neg e1]
   simp only [if_neg e1]
   exact hrel.heap.root u
 ·rcases hown t κ b h1 with ⟨rfl, rfl, rfl⟩ | h1 <;> rcases hown t' κ' _ h2 with ⟨rfl, rfl, h3⟩ | h2
  ·exact ⟨rfl, rfl⟩
  ·exact absurd (h.heap.free _ _ _ h2).2 (by omega)
  ·subst h3; exact absurd (h.heap.free _ _ _ h1).2 (by omega)
  ·exact h.heap.inj _ _ _ _ b h1 h2
 ·rcases hown t κ b h1 with ⟨rfl, rfl, rfl⟩ | h1
  ·exact ⟨fun hs => absurd (h.heap.low.1 _ hs) (by omega), by simp⟩
  ·exact hrel.heap.free t κ b h1
 ·rcases hown t κ b h1 with ⟨rfl, rfl, rfl⟩ | h1
  ·exact .inl h.chg.size
  ·exact h.mine t κ b h1
 ·have hne : ∀ t row', st.r.getD t .none = .box row' → t ≠ st.s.length := fun t row' h1 e1 => hb row' (e1 ▸ h1)
  refine hx.congr (fun t o rc _ _ h1 => ?_) (fun t o _ row' h1 h2 => ?_) (fun f caps _ t _ row' h1 => ?_)
  ·refine ⟨?_, rfl⟩
   rw [hg]
   split
   ·rename_i e1; subst e1; rw [hrow] at h1; exact h1
   ·exact h1
  ·refine ⟨row', by rw [hg, if_neg (hne t row' h1)]; exact h1, h2, by simp only [if_neg (hne t row' h1)]⟩
  ·refine ⟨row', by rw [hg, if_neg (hne t row' h1)]; exact h1, rfl, by simp only [if_neg (hne t row' h1)]⟩
end Go.Proofs.Ytcpcghnpoekhpaa.A
/- The ghost machine, part 14: alloc, box, slices built and made, bytes of a string. -/
set_option linter.unusedSimpArgs false
set_option linter.unusedVariables false
set_option maxRecDepth 100000
set_option maxHeartbeats 4000000
namespace Go.Proofs.Ytcpcghnpoekhpaa.A
open Go Go.RowKit
variable {P : Program} {T : TT} {w w' w0 : World} {S S0 : Nat → Prop} {F : Fr} {bx : Nat → Nat} {ph : Nat → Nat → Pv} {a : Act} {st st' : St}
def Old (w w' : World) : Prop := ∀ b, b < w.heap.size → w'.heap[b]? = w.heap[b]?
theorem box_core (h : Rel T w0 S0 F st a w S bx ph) (hsp : st.r.getD st.s.length .none = .none) {v : Value} {V : V} (hv : VRep T w S st.r bx ph v V) (hne : cellsOfV V ≠ []) {st2 : St} (hp : pushAll T (std P T) st (cellsOfV V) = some st2) (hme : (rootOf st2.r st.s.length).row.any RC.isMe = false)
    {dst : Option Nat} (hd : ∀ k, dst = some k → k < st.s.length) (e : TypeId) :
    Rels T w0 S0 F (fin (toBox st2) dst (fun d => .one (.ptr d 0))) (a.put dst (.pointer (some ⟨w.heap.size, 0, none⟩))) (w.alloc (.cells v.cells e)) := by
  have hx := cellsOf_sound h.heap hv hne
  have hb : ∀ row, st.r.getD st.s.length .none ≠ .box row := by rw [hsp]; exact fun _ h => by cases h
  obtain ⟨ph', q⟩ := pushAll_sound (cellsOfV V) v.cells.toList st ph h hb (by rw [Array.length_toList]; exact hx.1) (fun k hk hk2 => by simpa using hx.2 k hk (by simpa using hk2)) hp
  obtain ⟨rcs, r1, r2⟩ := q.row
  have hl0 : (st.r.getD st.s.length .none).row = [] := by rw [hsp]; rfl
  rw [hl0, List.nil_append] at r2
  have hpos : 0 < rcs.length := by
    rw [r1, Array.length_toList, hx.1]
    cases hh : cellsOfV V with
    | nil => exact absurd hh hne
    | cons x l => simp
  obtain ⟨t1, t2⟩ := toBox_sound (cs := v.cells) (e := e) (row := rcs) q.rel (by rw [q.len]; exact r2) (by rw [q.len]; exact q.loose) (by rw [r1]; simp) (fun o ho => by
    have h3 := q.vals o (by rw [← r1]; exact ho)
    rw [hl0] at h3
    simp only [List.length_nil, Nat.zero_add] at h3
    rw [q.len, h3]
    have : o < v.cells.size := by rw [r1] at ho; simpa using ho
    simp [this]) (by rw [show (rootOf st2.r st.s.length).row = rcs from r2] at hme; exact hme)
  refine fin_sound t1 (fun k hk => by show k < st2.s.length; rw [q.len]; exact hd k hk) (fun k bx' ph2 hk h1 h2 h3 _ => ?_)
  have hs : (toBox st2).s.length = st2.s.length := rfl
  rw [hs] at h2 h3
  refine ⟨rcs, ?_, hpos, ?_⟩
  · rw [h3]; exact t2
  · rw [h2, if_pos rfl]
theorem old_alloc (o : Obj) : Old w (w.alloc o) := fun b hb => Below.heap_alloc w o b hb
/-! ### slices built of their elements -/
theorem fill_range {sz : Nat} : ∀ (vs : List Value) (k : Nat) (ps : List (Nat × Value)) (cells : Array Value), ps.map (·.1) = (List.range vs.length).map (k + ·) → ps.map (·.2) = vs → cells.size = (k + vs.length) * sz → (∀ v ∈ vs, v.cells.size = sz) →
    ∃ cells', Instr.fill (fun i => some (i * sz, sz)) cells ps = some cells' ∧ cells'.toList = cells.toList.take (k * sz) ++ (vs.map fun v => v.cells.toList).flatten := by
  intro vs
  induction vs with
  | nil =>
    intro k ps cells h1 h2 h3 _
    have : ps = [] := by cases ps with | nil => rfl | cons p l => simp at h2
    subst this
    refine ⟨cells, rfl, ?_⟩
    rw [List.take_of_length_le (by simp [h3])]; simp
  | cons v vs ih =>
    intro k ps cells h1 h2 h3 h4
    cases ps with
    | nil => simp at h2
    | cons p ps =>
      obtain ⟨i, u⟩ := p
      simp only [List.map_cons, List.cons.injEq] at h2
      obtain ⟨rfl, h2⟩ := h2
      rw [List.length_cons, List.range_succ_eq_map, List.map_cons, List.map_cons] at h1
      simp only [List.cons.injEq, Nat.add_zero] at h1
      obtain ⟨rfl, h1⟩ := h1
      have hu : u.cells.size = sz := h4 u (List.mem_cons_self ..)
      obtain ⟨s1, s2⟩ := splice_get (i * sz) u.cells.toList 0 cells
      have e1 : u.cells.zipIdx.foldl (fun cs p => cs.setIfInBounds (i * sz + p.2) p.1) cells = (u.cells.toList.zipIdx 0).foldl (fun cs p => cs.setIfInBounds (i * sz + p.2) p.1) cells := by
        rw [← Array.foldl_toList]; simp
      have hsz : (i + (vs.length + 1)) * sz = i * sz + sz + vs.length * sz := by
        rw [Nat.add_mul, Nat.add_mul]; omega
      have hcs : cells.size = i * sz + sz + vs.length * sz := by rw [h3, List.length_cons, hsz]
      obtain ⟨cells', f1, f2⟩ := ih (i + 1) ps _ (by rw [h1, List.map_map]; apply List.map_congr_left; intro x _; simp; omega) h2 (by rw [s1, hcs, Nat.add_mul, Nat.add_mul]; omega) (fun v hv => h4 v (List.mem_cons_of_mem _ hv))
      refine ⟨cells', ?_, ?_⟩
      · simp only [Instr.fill]
        rw [if_neg (by
          simp only [ne_eq, Bool.or_eq_true, decide_eq_true_eq, not_or]
          exact ⟨by simpa using hu, by omega⟩), e1]
        exact f1
      · rw [f2, List.map_cons, List.flatten_cons, ← List.append_assoc]
        congr 1
        apply List.ext_getElem?
        intro j
        have h5 := s2 j
        simp only [Nat.add_zero, Array.length_toList] at h5
        rw [Nat.add_mul, Nat.one_mul, List.getElem?_take]
        by_cases hj : j < i * sz + sz
        · rw [if_pos hj, Array.getElem?_toList, h5]
          by_cases hj2 : i * sz ≤ j
          · rw [if_pos ⟨hj2, by omega, by omega⟩, List.getElem?_append_right (by simp; omega)]
            congr 1
            simp only [List.length_take, Array.length_toList]; omega
          · rw [if_neg (by omega), List.getElem?_append_left (by simp; omega), List.getElem?_take, if_pos (by omega)]
            simp
        · rw [if_neg hj, List.getElem?_eq_none]
          simp; omega
theorem optAll_some {α : Type} : ∀ (l : List (Option α)) (r : List α), optAll l = some r → l = r.map some := by
 intro l
 induction l with
 | nil => intro r h; simp [optAll] at h; subst h; rfl
 | cons x l ih =>
  intro r h
  cases x with
  | none => simp [optAll] at h
  | some x =>
   unfold optAll at h
   split at h
   ·rename_i l' hl
    cases h
    rw [ih l' hl]; rfl
   ·cases h
theorem stab_all (h : Rel T w0 S0 F st a w S bx ph) {xs : List X} {vs : List Value} {cs : List C} (hl : vs.length = xs.length) (hx : ∀ k (h : k < xs.length) (h2 : k < vs.length), XRep T w S st.r bx ph vs[k] xs[k])
  (hs : optAll (xs.map (stab T (std P T) st.r)) = some cs) : ∃ S', Frozen T w0 S0 F st (xs.foldl (freezeX T (std P T)) st) a w S S' bx ph ∧ cs.length = vs.length ∧ ∀ k (h : k < cs.length) (h2 : k < vs.length), CRep w S' vs[k] cs[k] := by
 obtain ⟨S', h1, h2⟩ := freezeAll_sound (P := P) xs h
 have h3 := optAll_some _ _ hs
 have hlen : cs.length = xs.length := by have := congrArg List.length h3; simpa using this.symm
 refine ⟨S', h1, by omega, fun k hk hk2 => h2 xs[k] (List.getElem_mem (by omega)) _ _ (hx k (by omega) hk2) ?_⟩
 have := congrArg (fun l => l[k]?) h3
 simp only [List.getElem?_map, List.getElem?_eq_getElem hk, List.getElem?_eq_getElem (show k < xs.length by omega), Option.map_some, Option.some.injEq] at this
 exact this
theorem own_new {e : TypeId} {n cap : Nat} {cur : Array Value} {cells : List C} {xs : List Value} (hn : n ≤ cap) (hm : cap ≤ maxLen) (hs : cur.size = cap * szOf T e) (ht : cur.toList.take (n * szOf T e) = xs) (hl : xs.length = n * szOf T e)
  (hc : xs.length = cells.length) (hr : ∀ k (h : k < cells.length) (h2 : k < xs.length), CRep w S xs[k] cells[k]) (hlow : ∀ b, S b → b < w.heap.size) (w1 : World) (hw1 : w1.heap = w.heap) :
  RCRep T (w1.alloc (.cells cur e)) S (.of (.slice (some ⟨w.heap.size, 0, none⟩) n cap)) (.own e n cells) := by
 refine ⟨xs, ⟨hl, .inr ⟨w.heap.size, cap, cur, rfl, Nat.zero_le _, ?_, hn, hm, hs, ht⟩⟩, hc, fun k hk hk2 => (hr k hk hk2).frame (fun b hb => ?_) fun _ h => h⟩
 ·show (w1.heap.push _)[_]? = _
  rw [hw1]; simp
 ·rw [Below.heap_alloc w1 _ b (by rw [hw1]; exact hlow b hb), hw1]
theorem own_fin (h : Rel T w0 S0 F st a w S bx ph) (hsp : st.r.getD st.s.length .none = .none) {e : TypeId} {n : Nat} {cells : List C} {z : Value} {W : Nat → Prop} (hc : Chg W w w')
    (hW : ∀ b, b < w.heap.size → W b → ¬ S b ∧ (∀ t κ, ¬ owns st.r bx ph t κ b) ∧ (w0.heap.size ≤ b ∨ F b)) (hrc : RCRep T w' S (.of z) (.own e n cells))
    (hz : ∀ b, z.ownBlock = some b → b < w'.heap.size ∧ (w.heap.size ≤ b ∨ W b)) {dst : Option Nat} (hd : ∀ k, dst = some k → k < st.s.length) :
    Rels T w0 S0 F (fin { st with r := pushR st.r st.s.length (.own e n cells) } dst (fun d => .one (.view d 0))) (a.put dst z) w' := by
  have h1 := h.world hc hW
  obtain ⟨h2, h3⟩ := pushOwn h1 hsp hrc (fun b hb => by
    obtain ⟨hlt, hor⟩ := hz b hb
    rcases hor with hor | hor
    · exact ⟨fun hs => absurd (h.heap.low.1 b hs) (by omega), hlt, fun t κ ho => absurd (h.heap.free t κ b ho).2 (by omega), .inl (Nat.le_trans h.chg.size hor)⟩
    · by_cases hb2 : b < w.heap.size
      · obtain ⟨q1, q2, q3⟩ := hW b hb2 hor
        exact ⟨q1, hlt, q2, q3⟩
      · exact ⟨fun hs => absurd (h.heap.low.1 b hs) hb2, hlt, fun t κ ho => absurd (h.heap.free t κ b ho).2 hb2, .inl (Nat.le_trans h.chg.size (by omega))⟩)
  refine fin_sound h2 hd (fun k bx' ph' hk e1 e2 e3 _ => ⟨e, n, cells, ?_, ?_⟩)
  · rw [e3, h3]; rfl
  · rw [e1]; unfold phPush; rw [if_pos ⟨rfl, rfl⟩]; rfl
end Go.Proofs.Ytcpcghnpoekhpaa.A
