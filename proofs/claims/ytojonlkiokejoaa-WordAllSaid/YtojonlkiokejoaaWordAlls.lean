/- the walk of repertorylaw18.WordAll -/
import Derived.Test.YtojonlkiokejoaaWord18
import Derived.Test.YtojonlkiokejoaaWordRefAll
import Derived.Test.YtojonlkiokejoaaRead
namespace Go.Proofs.Ytojonlkiokejoaa
open Go.RowKit

theorem nextW_valid {T d : Nat} {l : List ByteArray} (h : ∀ s ∈ l, s.size ≤ d ∧ ∀ i, i < s.size → bt s i < T) (hT : T ≤ 256) : ∀ s ∈ nextW T l, s.size ≤ d + 1 ∧ ∀ i, i < s.size → bt s i < T := by
  intro s hs
  simp only [nextW, List.mem_flatMap, List.mem_map, List.mem_range] at hs
  obtain ⟨x, hx, t, ht, rfl⟩ := hs
  obtain ⟨h1, h2⟩ := h x hx
  have hsz : (x ++ ⟨#[UInt8.ofNat t]⟩).size = x.size + 1 := by rw [ByteArray.size_append, size_one]
  refine ⟨by omega, fun i hi => ?_⟩
  rcases Nat.lt_or_ge i x.size with h3 | h3
  · rw [bt_append_left h3]; exact h2 i h3
  · rw [bt_append_right h3, show i - x.size = 0 by omega]
    have : bt ⟨#[UInt8.ofNat t]⟩ 0 = t := by
      rw [bt_eq (by rw [size_one]; omega)]
      show (UInt8.ofNat t).toNat = t
      rw [UInt8.toNat_ofNat']; omega
    rw [this]; exact ht
theorem allGo_valid {T : Nat} (hT : T ≤ 256) : ∀ (n d : Nat) (outs lasts l : List ByteArray), allGo T n outs lasts = some l → (∀ s ∈ outs, s.size ≤ d + n ∧ ∀ i, i < s.size → bt s i < T) → (∀ s ∈ lasts, s.size ≤ d ∧ ∀ i, i < s.size → bt s i < T) → ∀ s ∈ l, s.size ≤ d + n ∧ ∀ i, i < s.size → bt s i < T := by
  intro n
  induction n with
  | zero => intro d outs lasts l h ho _; simp only [allGo, Option.some.injEq] at h; subst h; exact ho
  | succ n ih =>
    intro d outs lasts l h ho hl
    rw [allGo] at h
    split at h
    · simp only [Option.some.injEq] at h; subst h; exact ho
    · split at h
      · cases h
      · have hn := nextW_valid hl hT
        have := ih (d + 1) _ _ _ h (fun s hs => by
          rcases List.mem_append.1 hs with h | h
          · have := ho s h; exact ⟨by omega, this.2⟩
          · have := hn s h; exact ⟨by omega, this.2⟩) hn
        intro s hs
        have := this s hs
        exact ⟨by omega, this.2⟩
theorem all_valid {T K : Int} {l : List ByteArray} (h : all T K = some l) : ∀ s ∈ l, valid s T K = true := by
  unfold all at h
  split at h
  · cases h
  · rename_i hc
    have := allGo_valid (T := T.toNat) (by omega) K.toNat 0 _ _ _ h (by intro s hs; simp at hs; subst hs; simp [ByteArray.size]) (by intro s hs; simp at hs; subst hs; simp [ByteArray.size])
    intro s hs
    obtain ⟨h1, h2⟩ := this s hs
    unfold valid
    rw [decide_eq_true (fun i hi => by have := h2 i hi; omega), decide_eq_true (by omega)]; rfl
theorem allGo_length {T : Nat} : ∀ (n : Nat) (outs lasts l : List ByteArray), allGo T n outs lasts = some l → outs.length ≤ 4096 → l.length ≤ 4096 := by
  intro n
  induction n with
  | zero => intro outs lasts l h ho; simp only [allGo, Option.some.injEq] at h; subst h; exact ho
  | succ n ih =>
    intro outs lasts l h ho
    rw [allGo] at h
    split at h
    · simp only [Option.some.injEq] at h; subst h; exact ho
    · split at h
      · cases h
      · exact ih _ _ _ h (by rw [List.length_append, nextW_length]; omega)

set_option maxRecDepth 100000 in
set_option maxHeartbeats 1000000 in
theorem wordAll_walk (w : World) (T : Int) (hT : -9223372036854775808 ≤ T ∧ T ≤ 9223372036854775807) (K : Int) (hK : -9223372036854775808 ≤ K ∧ K ≤ 9223372036854775807) :
    Calls Try.prog 5 #[.int .i64 T, .int .i64 K] w fun e w' => e = .returned (.bool true) ∧ Below w.heap.size w w' := by
  by_cases h1 : 20 < K
  · go_enter Try.func5, Try.ntmps5
    go_wp2_with (go_at_call 10; refine (awake18 _).mono ?_; rintro e w' ⟨rfl, hb⟩)
    go_ret
    exact ⟨rfl, hb⟩
  · by_cases h2 : 300 < T
    · go_enter Try.func5, Try.ntmps5
      go_wp2_with (go_at_call 10; refine (awake18 _).mono ?_; rintro e w' ⟨rfl, hb⟩)
      go_ret
      exact ⟨rfl, hb⟩
    · have HT := Lib.hid hT
      have HK := Lib.hid (show -9223372036854775808 ≤ K ∧ K ≤ 9223372036854775806 from ⟨hK.1, by omega⟩)
      have hT1 : -9223372036854775808 ≤ T := hT.1
      have hK1 : -9223372036854775808 ≤ K := hK.1
      have HV := Lib.hid (fun (l : List ByteArray) (h : all T K = some l) => all_valid h)
      clear hT hK
      have hone : (T == 1) = true ∨ (T == 1) = false := by cases (T == 1) <;> simp
      rcases hone with hone | hone
      all_goals
        go_enter Try.func5, Try.ntmps5
        go_wp2_with fail
        go_fit (all_any T K w HT.out ⟨hK1, by omega⟩)
        rintro e w1 ⟨v1, rfl, hb1, hp1⟩
        go_wp2_with fail
        go_fit (refall_any T K w1 HT.out HK.out)
        rintro e w2 ⟨v2, rfl, hb2, hp2⟩
        cases hall : all T K with
        | none =>
          rw [hall] at hp1 hp2
          simp only at hp1 hp2
          subst hp1 hp2
          clear hall
          go_wp2_with fail
          refine wp_loop_rounds 1 ?_
          rw [rounds_succ]
          go_wp2_with fail
          go_fit (awake18 _)
          rintro e w3 ⟨rfl, hb3⟩
          go_wp2
          go_ret
          have hz1 := hb1.size
          have hz2 := hb2.size
          exact ⟨rfl, (hb1.trans (hb2.mono hz1)).trans (hb3.mono (by omega))⟩
        | some l =>
          rw [hall] at hp1 hp2
          obtain ⟨ho1, hne⟩ := hp1
          obtain ⟨ho2, _⟩ := hp2
          obtain ⟨g1, c1, rfl, hg1B, hg1, hc1⟩ := owns_shape ho1 hne
          obtain ⟨g2, c2, rfl, hg2B, hg2, hc2⟩ := owns_shape ho2 hne
          have hl : l.length ≤ 4096 := by
            unfold all at hall
            split at hall
            · cases hall
            · exact allGo_length _ _ _ _ hall (by simp)
          have HVV := Lib.hid (HV.out l hall)
          have hz1 := hb1.size
          have hz2 := hb2.size
          have hbw : Below w.heap.size w w2 := hb1.trans (hb2.mono hz1)
          clear hall ho1 ho2 hne HV
          go_wp2_with fail
          go_loopw [7] (fun i wr => ∃ k : Nat, k ≤ l.length ∧ i = .int .i64 k ∧ Below w2.heap.size w2 wr) (fun i _ => l.length - (intOf i).toNat)
          case atStart => exact ⟨0, by omega, rfl, Below.refl _ _⟩
          case round =>
            obtain ⟨k, hk, rfl, hbr⟩ := hrel
            have hz3 := hbr.size
            by_cases hlt : k < l.length
            · have hd1 : wr.cell? ⟨g1, k, none⟩ = some (.string l[k]) := by
                have h1 := hc1 k hlt
                rw [Nat.zero_add] at h1
                rw [hbr.cell (p := ⟨g1, k, none⟩) (by show g1 < _; omega), hb2.cell (p := ⟨g1, k, none⟩) (by show g1 < _; omega)]; exact h1
              have hd2 : wr.cell? ⟨g2, k, none⟩ = some (.string l[k]) := by
                have h1 := hc2 k hlt
                rw [Nat.zero_add] at h1
                rw [hbr.cell (p := ⟨g2, k, none⟩) (by show g2 < _; omega)]; exact h1
              have hval := HVV.out l[k] (List.getElem_mem hlt)
              have hsz : (l[k]).size ≤ 281474976710656 := by
                unfold valid at hval
                simp only [Bool.and_eq_true, decide_eq_true_eq] at hval
                omega
              have HVA := Lib.hid hval
              clear hval hc1 hc2
              generalize l[k] = s at *
              have hi0 : (0 : Int) ≤ (k : Int) := Int.natCast_nonneg _
              have hi1 : (k : Int) < (l.length : Int) := by omega
              have hg1' : g1 < wr.heap.size := by omega
              have hg2' : g2 < wr.heap.size := by omega
              go_wp2_with fail
              go_region_held3 (fun w' => w'.cell? ⟨g1, k, none⟩ = some (.string s) ∧ w'.cell? ⟨g2, k, none⟩ = some (.string s)) (first | go_keep | exact ⟨(hb4.cell (p := ⟨g1, k, none⟩) hg1').trans hd1, (hb4.cell (p := ⟨g2, k, none⟩) hg2').trans hd2⟩)
                 ((go_at_call 15; refine (valid_any s T K _ (by assumption) ⟨hK1, by omega⟩ HT.out).mono ?_; rintro e w4 ⟨rfl, hb4⟩; rw [HVA.out]))
              go_wp2
              go_roundw
              case rel => exact ⟨k + 1, by omega, by go_num, hbr.drew.trans (hb4.mono (by simp; omega))⟩
              case measure => simp [intOf]; omega
            · obtain rfl : k = l.length := by omega
              clear hc1 hc2
              go_wp2_with fail
              go_fit (awake18 _)
              rintro e w3 ⟨rfl, hb3⟩
              go_wp2
              go_ret
              exact ⟨rfl, (hbw.trans (hbr.mono (by omega))).trans (hb3.mono (by omega))⟩
end Go.Proofs.Ytojonlkiokejoaa
