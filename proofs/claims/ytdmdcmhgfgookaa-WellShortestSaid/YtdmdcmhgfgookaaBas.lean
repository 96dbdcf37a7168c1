/- Base lemmas of this prover: byte arrays, slices of strings that came in or were made. No program in sight. -/
import Derived.WalkKit
import Derived.WalkSpells
import Derived.WalkLawsBesides
import Derived.Lib.Hide
import Derived.Laws.AppendOwnNone
import Derived.Laws.CopyOwn
import Derived.BigQuiet
import Derived.Deep.QuietTactic
set_option linter.unusedSimpArgs false
set_option linter.unusedVariables false
set_option maxRecDepth 100000
set_option maxHeartbeats 4000000
namespace Go.Proofs.Ytdmdcmhgfgookaa
open Go.RowKit

theorem ret_eq {a b : Value} (h : a = b) : Ending.returned a = .returned b := by rw [h]
theorem ret_str {a b : ByteArray} (h : a = b) : Ending.returned (.string a) = .returned (.string b) := by rw [h]
theorem ret_bool {a b : Bool} (h : a = b) : Ending.returned (.bool a) = .returned (.bool b) := by rw [h]
theorem ret_int {a b : Int} (h : a = b) : Ending.returned (.int .i64 a) = .returned (.int .i64 b) := by rw [h]

def bt (x : ByteArray) (i : Nat) : Nat := if h : i < x.size then x[i].toNat else 0
theorem bt_eq {x : ByteArray} {i : Nat} (h : i < x.size) : bt x i = x[i].toNat := by simp [bt, h]
theorem bt_lt (x : ByteArray) (i : Nat) : bt x i < 256 := by
  unfold bt; split
  · exact UInt8.toNat_lt _
  · omega
theorem bt_data (x : ByteArray) (i : Nat) : bt x i = (x.data.toList.getD i 0).toNat := by
  unfold bt
  split
  · rename_i h
    have h2 : i < x.data.size := h
    rw [List.getD_eq_getElem?_getD, Array.getElem?_toList, Array.getElem?_eq_getElem h2]
    rfl
  · rename_i h
    have h2 : ¬ i < x.data.size := h
    rw [List.getD_eq_getElem?_getD, Array.getElem?_toList, Array.getElem?_eq_none (by omega)]
    rfl
theorem bt_append_left {x y : ByteArray} {i : Nat} (h : i < x.size) : bt (x ++ y) i = bt x i := by
  have h2 : i < x.data.toList.length := by simpa using h
  rw [bt_data, bt_data, ByteArray.data_append, Array.toList_append, List.getD_eq_getElem?_getD, List.getD_eq_getElem?_getD, List.getElem?_append_left h2]
theorem bt_append_right {x y : ByteArray} {i : Nat} (h : x.size ≤ i) : bt (x ++ y) i = bt y (i - x.size) := by
  have h2 : x.data.toList.length ≤ i := by simpa using h
  rw [bt_data, bt_data, ByteArray.data_append, Array.toList_append, List.getD_eq_getElem?_getD, List.getD_eq_getElem?_getD, List.getElem?_append_right h2]
  rw [show x.data.toList.length = x.size by simp]
theorem size_one (a : UInt8) : (ByteArray.mk #[a]).size = 1 := rfl
theorem size_nil : (ByteArray.mk #[]).size = 0 := rfl
theorem empty_of_size {x : ByteArray} (h : x.size = 0) : x = ⟨#[]⟩ := by
  cases x with | mk d => simp [ByteArray.size] at h; simp [h]
theorem nonempty_toList {x : ByteArray} (h : 0 < x.size) : x.toList.isEmpty = false := by
  rw [ByteArray.toList_eq]
  cases hx : x.data.toList with
  | nil => simp at hx; simp [ByteArray.size, hx] at h
  | cons a l => rfl
theorem empty_append (x : ByteArray) : (⟨#[]⟩ : ByteArray) ++ x = x := by
  apply ByteArray.ext; rw [ByteArray.data_append]; simp
theorem append_empty (x : ByteArray) : x ++ (⟨#[]⟩ : ByteArray) = x := by
  apply ByteArray.ext; rw [ByteArray.data_append]; simp

/-- a slice value that reads as the strings ss -/
def Strs (w : World) (a : Option Addr) (len : Nat) (ss : List ByteArray) : Prop :=
  len = ss.length ∧ (0 < len → ∃ b off, a = some ⟨b, off, none⟩ ∧ b < w.heap.size ∧ ∀ i (h : i < ss.length), w.cell? ⟨b, off + i, none⟩ = some (.string ss[i]))
def SBound (n : Nat) (ss : List ByteArray) : Prop := ∀ s ∈ ss, s.size ≤ n
theorem getD_size {n : Nat} {ss : List ByteArray} (h : SBound n ss) (i : Nat) : (ss.getD i ⟨#[]⟩).size ≤ n := by
  by_cases hi : i < ss.length
  · rw [List.getD_eq_getElem?_getD, List.getElem?_eq_getElem hi]; exact h _ (List.getElem_mem _)
  · rw [List.getD_eq_getElem?_getD, List.getElem?_eq_none (by omega)]; simp [ByteArray.size]
theorem getD_at {ss : List ByteArray} {i : Nat} (h : i < ss.length) : ss.getD i ⟨#[]⟩ = ss[i] := by
  rw [List.getD_eq_getElem?_getD, List.getElem?_eq_getElem h]; rfl
theorem Strs.below {w w' : World} {a : Option Addr} {len : Nat} {ss : List ByteArray} (h : Strs w a len ss) {B : Nat} (hB : w.heap.size ≤ B) (hb : Below B w w') : Strs w' a len ss := by
  refine ⟨h.1, fun h0 => ?_⟩
  obtain ⟨b, off, rfl, hblk, hc⟩ := h.2 h0
  have := hb.size
  exact ⟨b, off, rfl, by omega, fun i hi => (hb.cell (p := ⟨b, off + i, none⟩) (by show b < B; omega)).trans (hc i hi)⟩

/-- a slice that the call made itself, from block B on: it reads as the strings ss -/
def OwnS (e : TypeId) (B : Nat) (w : World) (v : Value) (ss : List ByteArray) : Prop := w.ownsRow B e 1 v ss.length (ss.map .string)

theorem OwnS.strs {e : TypeId} {B : Nat} {w : World} {v : Value} {ss : List ByteArray} (h : OwnS e B w v ss) :
    ∃ a cap, v = .slice a ss.length cap ∧ Strs w a ss.length ss ∧ (∀ x, a = some x → B ≤ x.block) ∧ (ss = [] ∨ a ≠ none) := by
  obtain ⟨hl, hv⟩ := h
  rcases hv with ⟨rfl, hn⟩ | ⟨g, cap, cur, rfl, hB, hheap, h1, h2, h3, h4⟩
  · have : ss = [] := List.eq_nil_of_length_eq_zero hn
    subst this
    exact ⟨none, 0, rfl, ⟨rfl, fun h => absurd h (by simp)⟩, fun x hx => (by cases hx), .inl rfl⟩
  · refine ⟨_, cap, rfl, ⟨rfl, fun h0 => ⟨g, 0, rfl, ?_, ?_⟩⟩, fun x hx => (by cases hx; exact hB), .inr (by simp)⟩
    · rcases Nat.lt_or_ge g w.heap.size with h | h
      · exact h
      · rw [Array.getElem?_eq_none h] at hheap; cases hheap
    · intro i hi
      have hown : w.ownsRow B e 1 (.slice (some ⟨g, 0, none⟩) ss.length cap) ss.length (ss.map .string) := ⟨hl, .inr ⟨g, cap, cur, rfl, hB, hheap, h1, h2, h3, h4⟩⟩
      have := hown.cells (g := g) rfl i (.string ss[i]) (by simp [hi])
      rw [Addr.add_lit] at this
      exact this
theorem OwnS.lt {e : TypeId} {B : Nat} {w : World} {v : Value} {ss : List ByteArray} (h : OwnS e B w v ss) : ∀ k, v.ownBlock = some k → B ≤ k ∧ k < w.heap.size := World.ownsRow.lt h
theorem OwnS.nil (e : TypeId) (B : Nat) (w : World) : OwnS e B w (.slice none 0 0) [] := World.ownsRow_nil _ _ _ _
theorem OwnS.mono {e : TypeId} {B B' : Nat} {w : World} {v : Value} {ss : List ByteArray} (h : OwnS e B w v ss) (hB : B' ≤ B) : OwnS e B' w v ss := by
  obtain ⟨hl, hv⟩ := h
  refine ⟨hl, ?_⟩
  rcases hv with ⟨rfl, hn⟩ | ⟨g, cap, cur, rfl, hB2, hheap, h1, h2, h3, h4⟩
  · exact .inl ⟨rfl, hn⟩
  · exact .inr ⟨g, cap, cur, rfl, by omega, hheap, h1, h2, h3, h4⟩
theorem OwnS.below {e : TypeId} {B C : Nat} {w w' : World} {v : Value} {ss : List ByteArray} (h : OwnS e B w v ss) (hC : ∀ k, v.ownBlock = some k → k < C) (hb : Below C w w') : OwnS e B w' v ss := by
  obtain ⟨hl, hv⟩ := h
  refine ⟨hl, ?_⟩
  rcases hv with ⟨rfl, hn⟩ | ⟨g, cap, cur, rfl, hB2, hheap, h1, h2, h3, h4⟩
  · exact .inl ⟨rfl, hn⟩
  · exact .inr ⟨g, cap, cur, rfl, hB2, by rw [hb.block g (hC g rfl)]; exact hheap, h1, h2, h3, h4⟩

theorem owns_new (w : World) (cur : Array Value) (e : TypeId) (B size n cap : Nat) (xs : List Value) (hB : B ≤ w.heap.size) (h1 : n ≤ cap) (h2 : cap ≤ maxLen) (h3 : cur.size = cap * size)
    (h4 : cur.toList.take (n * size) = xs) (hl : xs.length = n * size) : (w.alloc (.cells cur e)).ownsRow B e size (.slice (some ⟨w.heap.size, 0, none⟩) n cap) n xs :=
  ⟨hl, .inr ⟨w.heap.size, cap, cur, rfl, hB, by show (w.heap.push _)[w.heap.size]? = _; simp, h1, h2, h3, h4⟩⟩
theorem cell_new1 (w : World) (v : Value) (e : TypeId) (b : Nat) (hb : b = w.heap.size) : ∀ (j : Nat) (u : Value), [v][j]? = some u → (w.alloc (.cells #[v] e)).cell? ((⟨b, 0, none⟩ : Addr).add j) = some u := by
  intro j u hj
  subst hb
  have h0 : j = 0 := by
    have := (List.getElem?_eq_some_iff.1 hj).1
    simpa using this
  subst h0
  rw [Addr.add_lit]
  refine (World.cell?_alloc_mark w _ _ _ 0).trans ?_
  simpa using hj
theorem one_cell1 {v : Value} (h : v.oneCell' = true) : ∀ u ∈ [v], u.oneCell' = true := by
  intro u hu; simp at hu; subst hu; exact h
theorem strs_one (l : List ByteArray) : ∀ u ∈ l.map Value.string, u.oneCell' = true := by
  intro u hu
  obtain ⟨_, _, rfl⟩ := List.mem_map.1 hu
  rfl
end Go.Proofs.Ytdmdcmhgfgookaa
