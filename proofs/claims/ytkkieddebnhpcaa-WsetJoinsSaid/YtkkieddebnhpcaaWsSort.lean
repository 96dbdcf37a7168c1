/- Sort and Compact of strings in place: the library's contracts as PCO. -/
import Derived.Test.YtkkieddebnhpcaaLi
import Derived.Test.YtkkieddebnhpcaaTt
import Derived.Test.YtkkieddebnhpcaaShelfP
import Derived.Shelf.SlicesG.CompactS
import Derived.Lib.OwnBridge
import Derived.Sort.OwnSorted
set_option linter.unusedSimpArgs false
set_option linter.unusedVariables false
set_option maxRecDepth 100000
set_option maxHeartbeats 4000000
namespace Go.Proofs.Ytkkieddebnhpcaa.A
open Go Go.RowKit Go.Sort
def bL (s : ByteArray) : List UInt8 := s.data.toList
def ofL (l : List UInt8) : ByteArray := ⟨l.toArray⟩
theorem ofL_bL (s : ByteArray) : ofL (bL s) = s := rfl
theorem bL_ofL (l : List UInt8) : bL (ofL l) = l := rfl
def srtS (l : List ByteArray) : List ByteArray := ((l.map bL).mergeSort fun x y => decide (x ≤ y)).map ofL
def cpS (l : List ByteArray) : List ByteArray := (Lib.compact (l.map bL)).map ofL
variable {w : World} {S : Nat → Prop}
theorem crep_vS {v : Value} {s : ByteArray} (h : CRep w S v (vS s)) : v = .string s := by cases h; rfl
/-- the values of an own slice of strings -/
theorem own_strs {v : Value} {n : Nat} {l : List ByteArray} (h : RCRep T w S v (.own 9 n (sC l))) : w.ownsRow 0 9 1 v n ((l.map bL).map encStr) := by
  obtain ⟨xs, h1, h2, h3⟩ := h
  have hx : xs = (l.map bL).map encStr := by
    rw [show (l.map bL).map encStr = l.map Value.string from Lib.map_encStr l]
    apply List.ext_getElem
    · rw [h2, sC_len, List.length_map, nS_eq]
    · intro k hk hk2
      have hk3 : k < (sC l).length := by omega
      have := h3 k hk3 hk
      have e : (sC l)[k] = vS (l[k]'(by simpa using hk2)) := by simp [sC]
      rw [e] at this
      rw [crep_vS this, List.getElem_map]
  rw [← hx]; exact h1
theorem strs_own {v : Value} {n : Nat} {zs : List (List UInt8)} (h : w.ownsRow 0 9 1 v n (zs.map encStr)) : RCRep T w S v (.own 9 n (sC (zs.map ofL))) := by
  refine ⟨_, h, by simp [sC_len, nS_eq], fun k hk hk2 => ?_⟩
  have e : (sC (zs.map ofL))[k] = vS (ofL (zs[k]'(by simpa using hk2))) := by simp [sC]
  rw [e, List.getElem_map]
  exact .val rfl
theorem grownBy_put {g q : Nat} (d : Array (List UInt8)) : w.grownBy (putRow encStr (Sort.ahead w q) g 0 d) (some g) := by
  refine ⟨rfl, rfl, rfl, by simp [putRow, mapBlock, Sort.ahead], fun k hk hne => ?_⟩
  have : g ≠ k := fun e => hne (by rw [e])
  simp [putRow, mapBlock, Sort.ahead, Array.getElem?_modify, this]
theorem pco_sort (l : List ByteArray) (n : Nat) (hl : n < 4611686018427387904) : PCO Try.prog T 54 9 n (sC l) [] false n (sC (srtS l)) := by
  intro w S v hS hv hb
  have h0 := own_strs hv
  have hlen : (l.map bL).length = n := by simpa using h0.1
  by_cases hz : v = .slice none 0 0
  · subst hz
    have hn : n = 0 := by
      rcases h0.2 with ⟨_, h⟩ | ⟨_, _, _, h, _⟩
      · exact h
      · cases h
    subst hn
    have hl0 : l = [] := by simpa using hlen
    subst hl0
    refine (AnyM.slices_Sort_string_none Ytkkieddebnhpcaa.sortS none 0 w).mono ?_
    rintro e w' ⟨rfl, rfl⟩
    refine ⟨_, rfl, Chg.refl _ _, ?_⟩
    rw [if_neg (by simp)]
    refine ⟨rfl, ?_⟩
    have e : srtS [] = [] := by simp [srtS]
    rw [e]; exact hv
  · obtain ⟨g, cap, rfl, -, hgl, hnc, hcm, -, hH⟩ := Lib.holds_of_ownsRow h0 hz
    have hs := AnyM.slices_Sort_string Ytkkieddebnhpcaa.sortS g 0 cap (l.map bL) w hH hgl (by omega)
    rw [hlen] at hs
    refine hs.mono ?_
    rintro e w' ⟨rfl, nn, os, rfl⟩
    refine ⟨_, rfl, (Chg.of_grown (grownBy_sorted _)).mono fun k _ hk => ?_, ?_⟩
    · exact hk
    · rw [if_neg (by simp)]
      refine ⟨rfl, ?_⟩
      rcases h0.2 with ⟨h, _⟩ | ⟨g', cap', cur, hv', hbase, hheap, h1, h2, h3, h4⟩
      · cases h
      cases hv'
      have hs := ownsRow_sorted (n := nn) (os := os) (ss := l.map bL) (ts := (l.map bL).mergeSort fun x y => decide (x ≤ y)) (List.length_mergeSort _) hbase hheap (by omega) h2 h3
      rw [hlen] at hs
      exact strs_own hs
theorem pco_compact (l : List ByteArray) (n : Nat) (hl : n < 4611686018427387904) : PCO Try.prog T 55 9 n (sC l) [] true (nS (cpS l)) (sC (cpS l)) := by
  intro w S v hS hv hb
  have h0 := own_strs hv
  have hlen : (l.map bL).length = n := by simpa using h0.1
  have hcl : nS (cpS l) = (Lib.compact (l.map bL)).length := by rw [nS_eq]; simp [cpS]
  by_cases hz : v = .slice none 0 0
  · subst hz
    have hn : n = 0 := by
      rcases h0.2 with ⟨_, h⟩ | ⟨_, _, _, h, _⟩
      · exact h
      · cases h
    subst hn
    have hl0 : l = [] := by simpa using hlen
    subst hl0
    refine (AnyG.slices_Compact_string_empty Ytkkieddebnhpcaa.compS none 0 w).mono ?_
    rintro e w' ⟨rfl, rfl⟩
    refine ⟨_, rfl, Chg.refl _ _, ?_⟩
    rw [if_pos rfl]
    have e : cpS [] = [] := rfl
    rw [e]
    exact ⟨hv, fun b hb2 => ⟨(hb b hb2).2, .inr hb2⟩⟩
  · obtain ⟨g, cap, rfl, -, hgl, hnc, hcm, -, hH⟩ := Lib.holds_of_ownsRow h0 hz
    have hs := AnyG.slices_Compact_string Ytkkieddebnhpcaa.compS g 0 cap (l.map bL) w hH (by omega) (by omega)
    rw [hlen] at hs
    refine hs.mono ?_
    rintro e w' ⟨rfl, q, rfl⟩
    refine ⟨_, rfl, (Chg.of_grown (grownBy_put _)).mono fun k _ hk => hk, ?_⟩
    rw [if_pos rfl]
    have hle := Lib.compact_length_le (l.map bL)
    have hc := Lib.ownsRow_putRow (q := q) (k := (Lib.compact (l.map bL)).length) (ys := Lib.compact (l.map bL) ++ List.replicate (n - (Lib.compact (l.map bL)).length) []) h0 (by simp; omega) (by omega)
    rw [List.take_left] at hc
    rw [hcl]
    refine ⟨strs_own hc, fun b hb2 => ⟨?_, .inr hb2⟩⟩
    have hb3 := (hb b hb2).2
    simpa [putRow, mapBlock, Sort.ahead] using hb3
end Go.Proofs.Ytkkieddebnhpcaa.A
