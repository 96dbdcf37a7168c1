/- repertorylaw18.awake -/
import Derived.Test.YtojonlkiokejoaaWordAll
namespace Go.Proofs.Ytojonlkiokejoaa
open Go.RowKit

theorem strs_new (w : World) (l : List ByteArray) (C : Array Value) (e : TypeId) (b n : Nat) (hC : C = (l.map Value.string).toArray) (hb : b = w.heap.size) (hn : n = l.length) : Strs (w.alloc (.cells C e)) (some ⟨b, 0, none⟩) n l := by
  subst hC hb hn
  refine ⟨rfl, fun _ => ⟨w.heap.size, 0, rfl, by simp, fun i hi => ?_⟩⟩
  refine (World.cell?_alloc_mark w _ _ _ _).trans ?_
  simp [hi]
theorem sbound_of {l : List ByteArray} {n : Nat} (h : l.all (fun s => s.size ≤ n) = true) : SBound n l := fun s hs => by
  have := List.all_eq_true.1 h s hs
  simpa using this

theorem all22 : all (2 : Int) (2 : Int) = some [⟨#[]⟩, ⟨#[0]⟩, ⟨#[1]⟩, ⟨#[0, 0]⟩, ⟨#[0, 1]⟩, ⟨#[1, 0]⟩, ⟨#[1, 1]⟩] := by decide +kernel
theorem cat3 : cat [⟨#[97, 98]⟩, ⟨#[99, 100]⟩] 3 = ⟨#[97, 98, 99]⟩ := by decide +kernel
theorem text1 : text [⟨#[97]⟩, ⟨#[98]⟩] ⟨#[1]⟩ = ⟨#[39, 98, 39]⟩ := by decide +kernel

theorem all22_calls (w : World) : Calls Try.prog 17 #[.int .i64 2, .int .i64 2] w fun e w' => ∃ g cap, e = .returned (.slice (some ⟨g, 0, none⟩) 7 cap) ∧ w'.cell? ⟨g, 0, none⟩ = some (.string ⟨#[]⟩) ∧ w'.cell? ⟨g, 6, none⟩ = some (.string ⟨#[1, 1]⟩) ∧ Below w.heap.size w w' ∧ g < w'.heap.size := by
  refine (all_any 2 2 w (by omega) (by omega)).mono ?_
  rintro e w' ⟨v, rfl, hb, h⟩
  rw [all22] at h
  obtain ⟨a, cap, rfl, hs, hb2, hn⟩ := h.1.strs
  obtain ⟨b, off, rfl, hlt, hc⟩ := hs.2 (by simp)
  rcases h.1.2 with ⟨hv, _⟩ | ⟨g, cap', cur, hv, hB, _⟩
  · cases hv
  · cases hv
    exact ⟨b, cap, rfl, hc 0 (by simp), hc 6 (by simp), hb, hlt⟩

set_option maxHeartbeats 1000000 in
theorem awake18 (w : World) : Calls Try.prog 10 #[] w fun e w' => e = .returned (.bool true) ∧ Below w.heap.size w w' := by
  go_enter Try.func10, Try.ntmps10
  go_wp2_with fail
  refine (all22_calls _).mono ?_
  rintro e w1 ⟨g, cap, rfl, hc0, hc6, hb, hg⟩
  go_wp2_with fail
  go_fit (cat_any 3 (some ⟨w1.heap.size, 0, none⟩) 2 2 [⟨#[97, 98]⟩, ⟨#[99, 100]⟩] _ (by omega) (by omega) (strs_new _ _ _ _ _ _ rfl rfl rfl) (sbound_of (by decide +kernel)))
  rintro e w' ⟨rfl, rfl⟩
  rw [cat3]
  go_wp2_with fail
  go_fit (text_any ⟨#[1]⟩ (some ⟨w1.heap.size + 1, 0, none⟩) 2 2 [⟨#[97]⟩, ⟨#[98]⟩] _ (by decide) (strs_new _ _ _ _ _ _ rfl (by simp) rfl) (sbound_of (by decide +kernel)))
  rintro e w' ⟨rfl, rfl⟩
  rw [text1]
  go_wp2
  go_ret
  have := hb.size
  exact ⟨rfl, (hb.alloc (by omega) _).alloc (by simp; omega) _⟩
end Go.Proofs.Ytojonlkiokejoaa
