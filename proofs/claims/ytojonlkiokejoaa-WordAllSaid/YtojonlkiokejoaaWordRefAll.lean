/- The contract of repertoryref18.All. -/
import Derived.Test.YtojonlkiokejoaaWordAll
import Derived.Test.YtojonlkiokejoaaApp
import Derived.Deep.RegionLaw
namespace Go.Proofs.Ytojonlkiokejoaa
open Go.RowKit

set_option maxHeartbeats 400000 in
theorem refall_bad (T K : Int) (w : World) (h : T < 0 ∨ 256 < T ∨ K < 0) :
    Calls Try.prog 18 #[.int .i64 T, .int .i64 K] w (AllPost w (all T K)) := by
  have HA := Lib.hid (show all T K = none by unfold all; rw [if_pos h])
  by_cases h1 : T < 0
  · go_enter Try.func18, Try.ntmps18
    go_wp2
    go_ret
    exact ⟨_, rfl, Below.refl _ _, by rw [HA.out]; rfl⟩
  · by_cases h2 : 256 < T
    · go_enter Try.func18, Try.ntmps18
      go_wp2
      go_ret
      exact ⟨_, rfl, Below.refl _ _, by rw [HA.out]; rfl⟩
    · have h3 : K < 0 := by omega
      go_enter Try.func18, Try.ntmps18
      go_wp2
      go_ret
      exact ⟨_, rfl, Below.refl _ _, by rw [HA.out]; rfl⟩

theorem owns_shape {w : World} {B e : Nat} {v : Value} {l : List ByteArray} (h : OwnS e B w v l) (hne : l ≠ []) : ∃ g cap, v = .slice (some ⟨g, 0, none⟩) l.length cap ∧ B ≤ g ∧ g < w.heap.size ∧ ∀ i (h : i < l.length), w.cell? ⟨g, 0 + i, none⟩ = some (.string l[i]) := by
  obtain ⟨a, cap, rfl, hs, hb, hn⟩ := h.strs
  obtain ⟨b, off, rfl, hlt, hc⟩ := hs.2 (by cases l with | nil => exact absurd rfl hne | cons a l => simp)
  rcases h.2 with ⟨hv, _⟩ | ⟨g, cap', cur, hv, hB, _⟩
  · cases hv
  · cases hv; exact ⟨b, cap, rfl, hB, hlt, hc⟩

theorem wrap_u8 {t : Nat} (h : t < 256) : IntKind.u8.wrap (t : Int) = (t : Int) := by
  simp [IntKind.wrap, IntKind.signed, IntKind.bits]; omega
theorem own_cell {w : World} {B e g gc : Nat} {nl : List ByteArray} {k : Nat} {x : ByteArray} (h : w.ownsRow B e 1 (.slice (some ⟨g, 0, none⟩) nl.length gc) nl.length (nl.map .string)) (hk : k < nl.length) (hx : nl[k] = x) : w.cell? ⟨g, k, none⟩ = some (.string x) := by
  have := h.cells (g := g) rfl k (.string x) (by simp [hk, hx])
  rwa [Addr.add_lit, Nat.zero_add] at this
theorem getElem_pre {outs r : List ByteArray} {i : Nat} (h : i < outs.length) (h2 : i < (outs ++ r).length) : (outs ++ r)[i] = outs[i] := List.getElem_append_left h

set_option maxRecDepth 100000 in
set_option maxHeartbeats 2000000 in
theorem refall_good (T K : Nat) (w : World) (hT : T ≤ 256) (hK : K ≤ 9223372036854775806) :
    Calls Try.prog 18 #[.int .i64 T, .int .i64 K] w (AllPost w (all T K)) := by
  obtain ⟨i0, hi, hz0, hz1, hz2⟩ := info_parts Try.info_string
  have HG := Lib.hid (show all T K = allGo T K [⟨#[]⟩] [⟨#[]⟩] by unfold all; rw [if_neg (by omega)]; rfl)
  have hst : OwnS 9 w.heap.size (w.alloc (.cells #[.string ⟨#[]⟩] 9)) (.slice (some ⟨w.heap.size, 0, none⟩) 1 1) [⟨#[]⟩] :=
    owns_new w _ _ _ _ 1 1 _ (Nat.le_refl _) (Nat.le_refl _) (by unfold maxLen; omega) rfl rfl rfl
  go_enter Try.func18, Try.ntmps18
  go_wp2
  go_loopw [5, 6, 7] (fun v fr n wr => ∃ (j : Nat) (outs : List ByteArray) (from_ : Nat), 1 ≤ j ∧ j ≤ K + 1 ∧ n = .int .i64 j ∧ fr = .int .i64 from_ ∧ from_ ≤ outs.length ∧ OwnS 9 w.heap.size wr v outs ∧
      Below w.heap.size w wr ∧ allGo T (K + 1 - j) outs (outs.drop from_) = allGo T K [⟨#[]⟩] [⟨#[]⟩] ∧ outs.length ≤ 4096 ∧ SBound outs.length outs ∧ outs ≠ [])
    (fun _ _ n _ => K + 1 - (intOf n).toNat)
  case atStart => exact ⟨1, [⟨#[]⟩], 0, by omega, by omega, rfl, rfl, by simp, hst, (Below.refl _ _).alloc (Nat.le_refl _) _, rfl, (by simp), (by intro s hs; simp at hs; subst hs; simp [ByteArray.size]), (by simp)⟩
  case round =>
    obtain ⟨j, outs, from_, hj1, hj2, rfl, rfl, hfr, hown, hbel, hgo, hl2, hsb, hne⟩ := hrel
    obtain ⟨og, oc, rfl, hogB, hoglt, hoc⟩ := owns_shape hown hne
    by_cases hjk : j ≤ K
    · have hn0 : ¬ K + 1 - j = 0 := by omega
      have hHsz := hbel.size
      have HGO := Lib.hid hgo
      have HOWN := Lib.hid hown
      have HNE := Lib.hid hne
      clear hgo hown hoc hne
      obtain ⟨wo, rfl⟩ : ∃ wo : World, wo = wr := ⟨_, rfl⟩
      go_wp2
      go_loopw [9, 5] (fun i v wr => ∃ k : Nat, from_ ≤ k ∧ k ≤ outs.length ∧ i = .int .i64 k ∧ OwnS 9 w.heap.size wr v (outs ++ nextW T ((outs.drop from_).take (k - from_))) ∧ Below w.heap.size w wr ∧ (outs ++ nextW T ((outs.drop from_).take (k - from_))).length ≤ 4096) (fun i _ _ => outs.length - (intOf i).toNat)
      case atStart => exact ⟨from_, Nat.le_refl _, hfr, rfl, by simpa [nextW] using HOWN.out, hbel, by simpa [nextW] using hl2⟩
      case round =>
        obtain ⟨k, hkf, hk, rfl, hnx, hb1, hl3⟩ := hrel
        by_cases hkl : k < outs.length
        · have HX := Lib.hid (show (outs.drop from_)[k - from_]? = some (outs[k]) by rw [List.getElem?_drop, show from_ + (k - from_) = k by omega, List.getElem?_eq_getElem hkl])
          have hxs : (outs[k]).size ≤ 4096 := by have := hsb _ (List.getElem_mem hkl); omega
          obtain ⟨x, hxx⟩ : ∃ x, x = outs[k] := ⟨_, rfl⟩
          rw [← hxx] at HX hxs
          have HXX := Lib.hid hxx
          clear hxx
          obtain ⟨w1, rfl⟩ : ∃ w1 : World, w1 = wr := ⟨_, rfl⟩
          generalize hP : outs ++ nextW T ((outs.drop from_).take (k - from_)) = P0 at *
          have HP := Lib.hid hP
          have hPl : P0.length = outs.length + (k - from_) * T := by
            rw [← hP, List.length_append, nextW_length, List.length_take, List.length_drop, Nat.min_eq_left (by omega)]
          have HPL := Lib.hid hPl
          have hP0 : outs.length ≤ P0.length := by rw [hPl]; omega
          have HPk := Lib.hid (show ∀ (h : k < P0.length), P0[k] = x by
            rw [← hP]; intro h; rw [HXX.out]; exact List.getElem_append_left hkl)
          have HNX := Lib.hid (show nextW T ((outs.drop from_).take (k + 1 - from_)) = nextW T ((outs.drop from_).take (k - from_)) ++ (List.range T).map fun t => x ++ ⟨#[UInt8.ofNat t]⟩ by
            rw [show k + 1 - from_ = k - from_ + 1 by omega, List.take_add_one, HX.out, ← nextW_snoc]; rfl)
          clear hP hPl
          go_wp2
          go_loopw [10, 5] (fun i v wr => ∃ (t : Nat) (nl : List ByteArray), t ≤ T ∧ i = .int .i64 t ∧ OwnS 9 w.heap.size wr v nl ∧ Below w.heap.size w wr ∧ nl = P0 ++ ((List.range t).map fun t => x ++ (⟨#[UInt8.ofNat t]⟩ : ByteArray)) ∧ nl.length ≤ 4096) (fun i _ _ => T - (intOf i).toNat)
          case atStart => exact ⟨0, P0, by omega, rfl, hnx, hb1, by simp, hl3⟩
          case round =>
            obtain ⟨t, nl, ht, rfl, hnx, hb1, hnl, hl4⟩ := hrel
            have hlen : nl.length = P0.length + t := by rw [hnl]; simp
            have hne2 : nl ≠ [] := by intro h; rw [h] at hlen; simp at hlen; omega
            obtain ⟨g, gc, rfl, hgB, hglt, hgc⟩ := owns_shape hnx hne2
            have HLEN := Lib.hid hlen
            have HNL := Lib.hid hnl
            have hl5 : P0.length + t ≤ nl.length := by omega
            clear hnl hlen hne2
            by_cases htl : t < T
            · by_cases hfull : 4096 ≤ nl.length
              · have HF := Lib.hid (show all T K = none by
                  have h1 : (outs.drop from_).length * T ≥ (k - from_) * T + T := by rw [← Nat.succ_mul]; exact Nat.mul_le_mul_right _ (by rw [List.length_drop]; omega)
                  have h2 : ¬ outs.drop from_ = [] := fun h => by have := congrArg List.length h; rw [List.length_drop] at this; simp at this; omega
                  have h3 := HPL.out
                  have h4 := HLEN.out
                  rw [HG.out, ← HGO.out, allGo_pos hn0, if_neg h2, if_pos (by omega)])
                clear hgc hl5
                go_wp2
                go_ret
                exact ⟨_, rfl, hb1, by rw [HF.out]; rfl⟩
              · have hfin : k < nl.length := by omega
                have hgx := hgc _ hfin
                have e1 : nl[k] = x := by
                  have : ∀ (m : List ByteArray) (h : k < m.length), m = nl → nl[k] = m[k] := fun m h e => by subst e; rfl
                  rw [this (P0 ++ ((List.range t).map fun t => x ++ (⟨#[UInt8.ofNat t]⟩ : ByteArray))) (by rw [← HNL.out]; exact hfin) HNL.out.symm, List.getElem_append_left (by omega)]
                  exact HPk.out _
                rw [e1, Nat.zero_add] at hgx
                have hi0 : (0 : Int) ≤ (k : Int) := Int.natCast_nonneg _
                have hi1 : (k : Int) < (nl.length : Int) := by omega
                have hcv := conv1d wr t (by omega)
                have hsum : ¬ 9223372036854775807 < x.size + 1 := by omega
                have hw8 : IntKind.u8.wrap (t : Int) = (t : Int) := wrap_u8 (by omega)
                have hs1 : (ByteArray.mk #[UInt8.ofNat t]).size = 1 := rfl
                have HS := Lib.hid (range_map_snoc x t)
                clear hgc hl5
                have HE1 := Lib.hid e1
                have hwz := hb1.size
                clear e1
                go_wp2_with fail
                go_region_law (refine step_append_keeps _ (by rfl) _ _ _ (by rfl) w.heap.size 9 i0 _ 1 16 Try.underlying22 hi hz0 hz1 hz2 rfl (by omega) _ _ _ (by rfl) (((hnx.alloc _).alloc _).drew) ⟨wr.heap.size + 1, 0, none⟩ 1 1 [.string (x ++ ⟨#[UInt8.ofNat t]⟩)] (by rfl) (by rfl) (cell_new1 _ _ _ _ (by simp)) (one_cell1 rfl) (by omega) (by unfold maxLen; omega) (by omega) (by simp; omega) (wr.heap.size + 2) (by simp) ?_; intro gg cap w2 hown' hold hgrow hat hlt)
                all_goals
                  have HO := Lib.hid (OwnS.snoc hown')
                  have hba : Below w.heap.size w ((wr.alloc (.cells #[.int .u8 (t : Int)] 5)).alloc (.cells #[.string (x ++ ⟨#[UInt8.ofNat t]⟩)] 9)).drew := (Below.alloc (Below.alloc hb1 (by omega) _) (by simp; omega) _).drew
                  have hb2 : Below w.heap.size w w2 := hba.grown hgrow (by simp; omega) (fun q hq => (hnx.lt q hq).1)
                  clear hown' hgrow hnx hold hat
                  go_wp2
                  go_roundw
                  case rel => exact ⟨t + 1, _, by omega, by go_num, HO.out, hb2, by rw [HS.out, ← List.append_assoc, ← HNL.out], by simp; omega⟩
                  case measure => simp [intOf]; omega
            · obtain rfl : T = t := by omega
              have HO := Lib.hid hnx
              have HE := Lib.hid (show nl = outs ++ nextW T ((outs.drop from_).take (k + 1 - from_)) by rw [HNL.out, HNX.out, ← List.append_assoc, HP.out])
              clear hnx hgc
              go_wp2
              go_roundw
              case rel => exact ⟨k + 1, by omega, by omega, by go_num, by rw [← HE.out]; exact HO.out, hb1, by rw [← HE.out]; exact hl4⟩
              case measure => simp [intOf]; omega
        · obtain rfl : k = outs.length := by omega
          have e2 : (outs.drop from_).take (outs.length - from_) = outs.drop from_ := by rw [List.take_of_length_le (by simp)]
          rw [e2] at hnx hl3
          have hnl : (nextW T (outs.drop from_)).length = (outs.drop from_).length * T := nextW_length _ _
          have HGS := Lib.hid (show allGo T (K + 1 - j) outs (outs.drop from_) = if outs.drop from_ = [] then some outs else allGo T (K - j) (outs ++ nextW T (outs.drop from_)) (nextW T (outs.drop from_)) by
            rw [allGo_pos hn0, show K + 1 - j - 1 = K - j by omega]
            split
            · rfl
            · rw [if_neg (by rw [List.length_append] at hl3; omega)])
          have hbnd : SBound (outs.length + 1) (nextW T (outs.drop from_)) := nextW_bound (fun s hs => hsb s (List.mem_of_mem_drop hs))
          obtain ⟨g, gc, rfl, hgB, hglt, hgc⟩ := owns_shape hnx (by simp [HNE.out])
          clear hgc e2
          by_cases hz : nextW T (outs.drop from_) = []
          · have HF := Lib.hid (show all T K = some outs by
              rw [HG.out, ← HGO.out, HGS.out, hz]
              split
              · rfl
              · rw [List.append_nil]; cases K - j <;> simp [allGo])
            rw [hz, List.append_nil] at hnx
            rw [hz, List.append_nil]
            clear hz hnl hl3
            go_wp2
            go_ret
            exact ⟨_, rfl, hb1, by rw [HF.out]; exact ⟨hnx, HNE.out⟩⟩
          · have hpos : 0 < (nextW T (outs.drop from_)).length := by cases h : nextW T (outs.drop from_) with | nil => exact absurd h hz | cons a l => simp
            have hd : ¬ outs.drop from_ = [] := fun h => hz (by rw [h]; rfl)
            have HN := Lib.hid (show allGo T (K - j) (outs ++ nextW T (outs.drop from_)) (nextW T (outs.drop from_)) = allGo T K [⟨#[]⟩] [⟨#[]⟩] by rw [← HGO.out, HGS.out, if_neg hd])
            clear hnl hd hz
            generalize nextW T (outs.drop from_) = nl at *
            have HO := Lib.hid hnx
            have hneq : (((outs ++ nl).length : Int) == (outs.length : Int)) = false := by rw [List.length_append]; simp; omega
            have HD := Lib.hid (show (outs ++ nl).drop outs.length = nl from List.drop_left)
            have hge : outs.length ≤ (outs ++ nl).length := by rw [List.length_append]; omega
            have HSB := Lib.hid (show SBound (outs ++ nl).length (outs ++ nl) by
              intro s hs
              rw [List.length_append]
              rcases List.mem_append.1 hs with h | h
              · have := hsb s h; omega
              · have := hbnd s h; omega)
            have HNE2 := Lib.hid (show outs ++ nl ≠ [] by simp [HNE.out])
            clear hnx
            generalize outs ++ nl = on at *
            go_wp2
            go_roundw
            case rel => exact ⟨j + 1, on, outs.length, by omega, by omega, by go_num, rfl, hge, HO.out, hb1, by rw [HD.out, show K + 1 - (j + 1) = K - j by omega]; exact HN.out, hl3, HSB.out, HNE2.out⟩
            case measure => simp [intOf]; omega
    · have HF := Lib.hid (show all T K = some outs by rw [HG.out, ← hgo, show K + 1 - j = 0 by omega]; rfl)
      clear hgo hoc
      go_wp2
      go_ret
      exact ⟨_, rfl, hbel, by rw [HF.out]; exact ⟨hown, hne⟩⟩

theorem refall_any (T K : Int) (w : World) (hT : -9223372036854775808 ≤ T ∧ T ≤ 9223372036854775807) (hK : -9223372036854775808 ≤ K ∧ K ≤ 9223372036854775806) :
    Calls Try.prog 18 #[.int .i64 T, .int .i64 K] w (AllPost w (all T K)) := by
  by_cases h : T < 0 ∨ 256 < T ∨ K < 0
  · exact refall_bad T K w h
  · obtain ⟨t, rfl⟩ := Int.eq_ofNat_of_zero_le (a := T) (by omega)
    obtain ⟨k, rfl⟩ := Int.eq_ofNat_of_zero_le (a := K) (by omega)
    exact refall_good t k w (by omega) (by omega)

end Go.Proofs.Ytojonlkiokejoaa
