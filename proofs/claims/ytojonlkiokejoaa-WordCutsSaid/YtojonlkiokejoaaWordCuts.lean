/- the walk of repertorylaw18.WordCuts -/
import Derived.Test.YtojonlkiokejoaaWord18
import Derived.Test.YtojonlkiokejoaaRead
namespace Go.Proofs.Ytojonlkiokejoaa
open Go.RowKit

theorem cut_list (x : ByteArray) (k : Int) : (cut x k).data.toList = x.data.toList.take k.toNat := by
  unfold cut
  rw [ByteArray.data_extract, Array.toList_extract]
  simp only [List.extract, Nat.sub_zero, List.drop_zero]
  rcases Nat.le_total k.toNat x.size with h | h
  · rw [Nat.min_eq_left h]
  · rw [Nat.min_eq_right h, List.take_of_length_le (by simp), List.take_of_length_le (by simpa using h)]
theorem ba_ext {x y : ByteArray} (h : x.data.toList = y.data.toList) : x = y := by
  apply ByteArray.ext; apply Array.toList_inj.1; exact h
theorem cut_pre {x y : ByteArray} {k : Int} (h : k ≤ (x.size : Int)) : cut x k = cut (x ++ y) k := by
  apply ba_ext
  rw [cut_list, cut_list, ByteArray.data_append, Array.toList_append, List.take_append_of_le_length]
  simp only [Array.length_toList, ByteArray.size_data] at *
  omega
theorem cat_three (a b c : ByteArray) (k : Int) : cat [a, b, c] k = cut (a ++ b ++ c) k := by
  unfold cat
  by_cases h0 : k ≤ 0
  · have : catTo [a, b, c] k (0 + 3) = catTo [a, b, c] k 0 := catTo_stop (by show k ≤ (0 : Int); exact h0) 3
    rw [show [a, b, c].length = 0 + 3 from rfl, this, cut_neg h0, cut_neg h0]
  · have e1 : catTo [a, b, c] k 1 = a := by
      show (if k ≤ (0 : Int) then (⟨#[]⟩ : ByteArray) else ⟨#[]⟩ ++ a) = a
      rw [if_neg h0, empty_append]
    by_cases h1 : k ≤ (a.size : Int)
    · have : catTo [a, b, c] k (1 + 2) = catTo [a, b, c] k 1 := catTo_stop (by rw [e1]; exact h1) 2
      rw [show [a, b, c].length = 1 + 2 from rfl, this, e1, ByteArray.append_assoc]
      exact cut_pre h1
    · have e2 : catTo [a, b, c] k 2 = a ++ b := by
        show (if k ≤ ((catTo [a, b, c] k 1).size : Int) then catTo [a, b, c] k 1 else catTo [a, b, c] k 1 ++ b) = a ++ b
        rw [e1, if_neg h1]
      by_cases h2 : k ≤ ((a ++ b).size : Int)
      · have : catTo [a, b, c] k (2 + 1) = catTo [a, b, c] k 2 := catTo_stop (by rw [e2]; exact h2) 1
        rw [show [a, b, c].length = 2 + 1 from rfl, this, e2]
        exact cut_pre h2
      · show cut (if k ≤ ((catTo [a, b, c] k 2).size : Int) then catTo [a, b, c] k 2 else catTo [a, b, c] k 2 ++ c) k = _
        rw [e2, if_neg h2]
theorem cat_none (k : Int) : cat [] k = ⟨#[]⟩ := by
  unfold cat; apply empty_of_size; simp [cut, catTo, ByteArray.size]
theorem strs_nil (w : World) : Strs w none 0 [] := ⟨rfl, fun h => absurd h (by simp)⟩

set_option maxHeartbeats 1000000 in
theorem wordCuts_walk (w : World) (a : ByteArray) (ha : a.size ≤ 140737488351232) (b : ByteArray) (hb : b.size ≤ 140737488351232) (c : ByteArray) (hc : c.size ≤ 140737488351232)
    (k : Int) (hk : -9223372036854775808 ≤ k ∧ k ≤ 9223372036854775807) (terms : Int) (ht : -9223372036854775808 ≤ terms ∧ terms ≤ 9223372036854775807) :
    Calls Try.prog 4 #[.string a, .string b, .string c, .int .i64 k, .int .i64 terms] w fun e w' => e = .returned (.bool true) ∧ Below w.heap.size w w' := by
  by_cases h1 : 200 < a.size ∨ 200 < b.size ∨ 200 < c.size
  · by_cases ha' : 200 < a.size
    · go_enter Try.func4, Try.ntmps4
      go_wp2_with (go_at_call 10; refine (awake18 _).mono ?_; rintro e w' ⟨rfl, hb⟩)
      go_ret
      exact ⟨rfl, hb⟩
    · by_cases hb' : 200 < b.size
      · go_enter Try.func4, Try.ntmps4
        go_wp2_with (go_at_call 10; refine (awake18 _).mono ?_; rintro e w' ⟨rfl, hb⟩)
        go_ret
        exact ⟨rfl, hb⟩
      · have hc' : 200 < c.size := by omega
        go_enter Try.func4, Try.ntmps4
        go_wp2_with (go_at_call 10; refine (awake18 _).mono ?_; rintro e w' ⟨rfl, hb⟩)
        go_ret
        exact ⟨rfl, hb⟩
  · have ha' : a.size ≤ 200 := by omega
    have hb' : b.size ≤ 200 := by omega
    have hc' : c.size ≤ 200 := by omega
    clear h1
    have habc : (a ++ b ++ c).size ≤ 600 := by simp only [ByteArray.size_append]; omega
    have hsb : SBound 140737488355328 [a, b, c] := by intro s hs; simp at hs; rcases hs with rfl | rfl | rfl <;> omega
    have HK := Lib.hid hk
    have HT := Lib.hid ht
    go_enter Try.func4, Try.ntmps4
    go_wp2_with fail
    go_fit (cut_any a k w (by omega) HK.out)
    rintro e w' ⟨rfl, rfl⟩
    go_wp2_with fail
    go_fit (refcut_any a k w (by omega) HK.out)
    rintro e w' ⟨rfl, rfl⟩
    go_wp2_with fail
    go_fit (cat_any k (some ⟨w.heap.size, 0, none⟩) 3 3 [a, b, c] _ HK.out (by omega) (strs_new _ _ _ _ _ _ rfl rfl rfl) hsb)
    rintro e w' ⟨rfl, rfl⟩
    rw [cat_three]
    go_wp2_with fail
    go_fit (refcut_any (a ++ b ++ c) k _ (by omega) HK.out)
    rintro e w' ⟨rfl, rfl⟩
    go_wp2_with fail
    go_fit (cat_any k none 0 0 [] _ HK.out (by omega) (strs_nil _) (fun s hs => by cases hs))
    rintro e w' ⟨rfl, rfl⟩
    rw [cat_none]
    go_wp2_with fail
    go_fit (valid_any a terms k _ (by omega) HK.out HT.out)
    rintro e w2 ⟨rfl, hb2⟩
    go_wp2_with fail
    go_fit (refvalid_any a terms k _ (by omega) HK.out HT.out)
    rintro e w' ⟨rfl, rfl⟩
    go_wp2_with fail
    go_fit (awake18 _)
    rintro e w3 ⟨rfl, hb3⟩
    go_wp2
    go_ret
    have hz := hb2.size
    simp at hz
    exact ⟨rfl, (((Below.refl _ _).alloc (Nat.le_refl _) _).trans (hb2.mono (by simp))).trans (hb3.mono (by omega))⟩
end Go.Proofs.Ytojonlkiokejoaa
