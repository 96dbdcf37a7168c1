/- The contract of word.All. -/
import Derived.Test.YtojonlkiokejoaaWord
namespace Go.Proofs.Ytojonlkiokejoaa
open Go.RowKit

/-! ### All -/
def nextW (T : Nat) (l : List ByteArray) : List ByteArray := l.flatMap fun x => (List.range T).map fun t => x ++ ⟨#[UInt8.ofNat t]⟩
def allGo (T : Nat) : Nat → List ByteArray → List ByteArray → Option (List ByteArray)
  | 0, out, _ => some out
  | k + 1, out, last => if last = [] then some out else if 4096 < last.length * T + out.length then none else allGo T k (out ++ nextW T last) (nextW T last)
def all (T K : Int) : Option (List ByteArray) := if T < 0 ∨ 256 < T ∨ K < 0 then none else allGo T.toNat K.toNat [⟨#[]⟩] [⟨#[]⟩]

/-- what All leaves -/
def AllPost (w : World) (r : Option (List ByteArray)) (e : Ending) (w' : World) : Prop :=
  ∃ v, e = .returned v ∧ Below w.heap.size w w' ∧ match r with
    | none => v = .slice none 0 0
    | some l => OwnS 9 w.heap.size w' v l ∧ l ≠ []

theorem Try.info_string : (Try.prog.info? 9).map (fun i => (i.zero, i.size, i.bytes)) = some (some (.string ByteArray.empty), 1, 16) := by kernel_rfl

set_option maxHeartbeats 400000 in
theorem all_bad (T K : Int) (w : World) (h : T < 0 ∨ 256 < T ∨ K < 0) :
    Calls Try.prog 17 #[.int .i64 T, .int .i64 K] w (AllPost w (all T K)) := by
  have HA := Lib.hid (show all T K = none by unfold all; rw [if_pos h])
  by_cases h1 : T < 0
  · go_enter Try.func17, Try.ntmps17
    go_wp2
    go_ret
    exact ⟨_, rfl, Below.refl _ _, by rw [HA.out]; rfl⟩
  · by_cases h2 : 256 < T
    · go_enter Try.func17, Try.ntmps17
      go_wp2
      go_ret
      exact ⟨_, rfl, Below.refl _ _, by rw [HA.out]; rfl⟩
    · have h3 : K < 0 := by omega
      go_enter Try.func17, Try.ntmps17
      go_wp2
      go_ret
      exact ⟨_, rfl, Below.refl _ _, by rw [HA.out]; rfl⟩

theorem allGo_pos {T n : Nat} {outs lasts : List ByteArray} (h : ¬ n = 0) : allGo T n outs lasts = if lasts = [] then some outs else if 4096 < lasts.length * T + outs.length then none else allGo T (n - 1) (outs ++ nextW T lasts) (nextW T lasts) := by
  cases n with
  | zero => exact absurd rfl h
  | succ n => rfl
theorem nextW_snoc (T : Nat) (l : List ByteArray) (x : ByteArray) : nextW T (l ++ [x]) = nextW T l ++ (List.range T).map fun t => x ++ ⟨#[UInt8.ofNat t]⟩ := by
  simp [nextW]
theorem nextW_length (T : Nat) (l : List ByteArray) : (nextW T l).length = l.length * T := by
  induction l with
  | nil => simp [nextW]
  | cons a l ih => simp only [nextW, List.flatMap_cons, List.length_append, List.length_map, List.length_range, List.length_cons] at *; rw [ih, Nat.succ_mul]; omega
theorem nextW_bound {T n : Nat} {l : List ByteArray} (h : SBound n l) : SBound (n + 1) (nextW T l) := by
  intro s hs
  simp only [nextW, List.mem_flatMap, List.mem_map] at hs
  obtain ⟨x, hx, t, _, rfl⟩ := hs
  have := h x hx
  rw [ByteArray.size_append, size_one]; omega

theorem conv1 (w : World) (t : Nat) (h : t < 256) : (convert 32 9 (.slice (some ⟨w.heap.size, 0, none⟩) 1 1)).run Try.prog (w.alloc (.cells #[.int .u8 (t : Int)] 5)) = .ok (.string ⟨#[UInt8.ofNat t]⟩) (w.alloc (.cells #[.int .u8 (t : Int)] 5)) := by
  refine run_convert_bytes_back (P := Try.prog) (w.alloc (.cells #[.int .u8 (t : Int)] 5)) 32 9 5 ⟨w.heap.size, 0, none⟩ 1 [UInt8.ofNat t] Try.underlying32 Try.underlying5 Try.underlying9 ?_
  intro j hj
  have : j = 0 := by simpa using hj
  subst this
  rw [Addr.add_lit]
  refine (World.cell?_alloc_mark w _ _ _ 0).trans ?_
  simp [Nat.mod_eq_of_lt h]
theorem conv1d (w : World) (t : Nat) (h : t < 256) : (convert 32 9 (.slice (some ⟨w.heap.size, 0, none⟩) 1 1)).run Try.prog (w.alloc (.cells #[.int .u8 (t : Int)] 5)).drew = .ok (.string ⟨#[UInt8.ofNat t]⟩) (w.alloc (.cells #[.int .u8 (t : Int)] 5)).drew := by
  refine run_convert_bytes_back (P := Try.prog) (w.alloc (.cells #[.int .u8 (t : Int)] 5)).drew 32 9 5 ⟨w.heap.size, 0, none⟩ 1 [UInt8.ofNat t] Try.underlying32 Try.underlying5 Try.underlying9 ?_
  intro j hj
  have : j = 0 := by simpa using hj
  subst this
  rw [Addr.add_lit]
  refine (World.cell?_alloc_mark w _ _ _ 0).trans ?_
  simp [Nat.mod_eq_of_lt h]
theorem range_map_snoc (x : ByteArray) (t : Nat) : ((List.range (t + 1)).map fun t => x ++ (⟨#[UInt8.ofNat t]⟩ : ByteArray)) = ((List.range t).map fun t => x ++ ⟨#[UInt8.ofNat t]⟩) ++ [x ++ ⟨#[UInt8.ofNat t]⟩] := by
  rw [List.range_succ, List.map_append]; rfl
theorem take_snoc' {l : List ByteArray} {k : Nat} (h : k < l.length) : l.take (k + 1) = l.take k ++ [l[k]] := by
  rw [List.take_succ_eq_append_getElem h]
/-- one string more, owned -/
theorem OwnS.snoc {e : TypeId} {B : Nat} {w' : World} {v : Value} {l : List ByteArray} {s : ByteArray} (h : w'.ownsRow B e 1 v (l.length + 1) (l.map .string ++ [.string s])) : OwnS e B w' v (l ++ [s]) := by
  unfold OwnS; rw [List.length_append, List.map_append]; exact h

set_option maxHeartbeats 1000000 in
theorem all_good (T K : Nat) (w : World) (hT : T ≤ 256) (hK : K ≤ 9223372036854775807) :
    Calls Try.prog 17 #[.int .i64 T, .int .i64 K] w (AllPost w (all T K)) := by
  obtain ⟨i0, hi, hz0, hz1, hz2⟩ := info_parts Try.info_string
  have HG := Lib.hid (show all T K = allGo T K [⟨#[]⟩] [⟨#[]⟩] by unfold all; rw [if_neg (by omega)]; rfl)
  have hst : OwnS 9 w.heap.size (w.alloc (.cells #[.string ⟨#[]⟩] 9)) (.slice (some ⟨w.heap.size, 0, none⟩) 1 1) [⟨#[]⟩] :=
    owns_new w _ _ _ _ 1 1 _ (Nat.le_refl _) (Nat.le_refl _) (by unfold maxLen; omega) rfl rfl rfl
  go_enter Try.func17, Try.ntmps17
  go_wp2
  go_loopw [1, 5, 6] (fun k v lv wr => ∃ (n : Nat) (outs lasts : List ByteArray) (la : Option Addr) (lc : Nat), n ≤ K ∧ k = .int .i64 n ∧ OwnS 9 w.heap.size wr v outs ∧ lv = .slice la lasts.length lc ∧ Strs wr la lasts.length lasts ∧
      Below w.heap.size w wr ∧ allGo T n outs lasts = allGo T K [⟨#[]⟩] [⟨#[]⟩] ∧ lasts.length ≤ 4096 ∧ outs.length ≤ 4096 ∧ SBound outs.length lasts ∧ outs ≠ [])
    (fun k _ _ _ => (intOf k).toNat)
  case atStart => exact ⟨K, [⟨#[]⟩], [⟨#[]⟩], _, _, Nat.le_refl _, rfl, hst, rfl, (by
      obtain ⟨a, c, hv, hs, _⟩ := hst.strs
      cases hv; exact hs), (Below.refl _ _).alloc (Nat.le_refl _) _, rfl, (by simp), (by simp), (by intro s hs; simp at hs; subst hs; simp [ByteArray.size]), (by simp)⟩
  case round =>
    obtain ⟨n, outs, lasts, la, lc, hn, rfl, hown, rfl, hls, hbel, hgo, hl1, hl2, hsb, hne⟩ := hrel
    by_cases hn0 : n = 0
    · subst hn0
      have HF := Lib.hid (show all T K = some outs by rw [HG.out, ← hgo]; rfl)
      go_wp2
      go_ret
      exact ⟨_, rfl, hbel, by rw [HF.out]; exact ⟨hown, hne⟩⟩
    · by_cases hl0 : lasts = []
      · subst hl0
        have HF := Lib.hid (show all T K = some outs by rw [HG.out, ← hgo, allGo_pos hn0]; simp)
        clear hgo hls
        go_wp2
        go_ret
        exact ⟨_, rfl, hbel, by rw [HF.out]; exact ⟨hown, hne⟩⟩
      · have hlpos : 0 < lasts.length := by cases lasts with | nil => exact absurd rfl hl0 | cons a l => simp
        have hmul : lasts.length * T ≤ 4096 * 256 := Nat.mul_le_mul hl1 hT
        have hmuli : (lasts.length : Int) * (T : Int) = ((lasts.length * T : Nat) : Int) := by simp
        have hm0 : 0 ≤ (lasts.length : Int) * (T : Int) := by rw [hmuli]; omega
        have hm1 : (lasts.length : Int) * (T : Int) ≤ 1048576 := by rw [hmuli]; omega
        obtain ⟨va, vc, hv, hvs, _⟩ := hown.strs
        by_cases hbig : 4096 < lasts.length * T + outs.length
        · have HF := Lib.hid (show all T K = none by rw [HG.out, ← hgo, allGo_pos hn0]; simp [hl0, hbig])
          have hb2 : 4096 - (outs.length : Int) < (lasts.length : Int) * (T : Int) := by rw [hmuli]; omega
          subst hv
          clear hgo hls hmuli hmul hbig
          go_wp2
          go_ret
          exact ⟨_, rfl, hbel, by rw [HF.out]; rfl⟩
        · have hb2 : (lasts.length : Int) * (T : Int) ≤ 4096 - (outs.length : Int) := by rw [hmuli]; omega
          have hb3 : lasts.length * T + outs.length ≤ 4096 := by omega
          have HN := Lib.hid (show allGo T (n - 1) (outs ++ nextW T lasts) (nextW T lasts) = allGo T K [⟨#[]⟩] [⟨#[]⟩] by rw [← hgo, allGo_pos hn0]; simp [hl0, hbig])
          have hHsz := hbel.size
          subst hv
          clear hgo hmuli hmul hbig
          go_wp2
          obtain ⟨wo, rfl⟩ : ∃ wo : World, wo = wr := ⟨_, rfl⟩
          go_loopw [42, 7] (fun i v wr => ∃ k : Nat, k ≤ lasts.length ∧ i = .int .i64 k ∧ OwnS 9 wo.heap.size wr v (nextW T (lasts.take k)) ∧ Below wo.heap.size wo wr) (fun i _ _ => lasts.length - (intOf i).toNat)
          case atStart => exact ⟨0, by omega, rfl, World.ownsRow_nil _ _ _ _, Below.refl _ _⟩
          case round =>
            obtain ⟨k, hk, rfl, hnx, hb1⟩ := hrel
            by_cases hkl : k < lasts.length
            · obtain ⟨lb, lo, rfl, hlblk, hlc⟩ := hls.2 hlpos
              have hc1 := (hb1.cell (p := ⟨lb, lo + k, none⟩) hlblk).trans (hlc k hkl)
              generalize hx : lasts[k] = x at hc1
              have HX := Lib.hid hx
              clear hx hlc
              have hxs : x.size ≤ 4096 := by have := hsb _ (List.getElem_mem hkl); rw [HX.out] at this; omega
              go_wp2
              obtain ⟨w1, rfl⟩ : ∃ w1 : World, w1 = wr := ⟨_, rfl⟩
              go_loopw [47, 7] (fun i v wr => ∃ t : Nat, t ≤ T ∧ i = .int .i64 t ∧ OwnS 9 wo.heap.size wr v (nextW T (lasts.take k) ++ (List.range t).map fun t => x ++ ⟨#[UInt8.ofNat t]⟩) ∧ Below wo.heap.size wo wr) (fun i _ _ => T - (intOf i).toNat)
              case atStart => exact ⟨0, by omega, rfl, by simpa using hnx, hb1⟩
              case round =>
                obtain ⟨t, ht, rfl, hnx, hb1⟩ := hrel
                by_cases htl : t < T
                · have hcv := conv1 wr t (by omega)
                  have hs1 : (ByteArray.mk #[UInt8.ofNat t]).size = 1 := rfl
                  have hlen : (nextW T (lasts.take k) ++ (List.range t).map fun t => x ++ ⟨#[UInt8.ofNat t]⟩).length ≤ 4096 := by
                    rw [List.length_append, nextW_length, List.length_map, List.length_range, List.length_take, Nat.min_eq_left (by omega)]
                    have h1 : k * T + T ≤ lasts.length * T := by rw [← Nat.succ_mul]; exact Nat.mul_le_mul_right _ (by omega)
                    omega
                  have HS := Lib.hid (range_map_snoc x t)
                  generalize hnl : (nextW T (lasts.take k) ++ (List.range t).map fun t => x ++ ⟨#[UInt8.ofNat t]⟩) = nl at *
                  have HNL := Lib.hid hnl
                  clear hnl
                  have hwz := hb1.size
                  go_wp2_with (at_builtin; refine wpList_append_own _ rfl (.tmp 50) (.tmp 57) 22 rfl wo.heap.size 9 i0 (.string ByteArray.empty) 1 16 Try.underlying22 hi hz0 hz1 hz2 rfl (by decide) _ _ _ rfl ((hnx.alloc _).alloc _) ⟨wr.heap.size + 1, 0, none⟩ 1 1 [.string (x ++ ⟨#[UInt8.ofNat t]⟩)] rfl rfl ?c1 ?c2 ?c3 ?c4 ?c5 ?_)
                  case c1 => exact cell_new1 _ _ _ _ (by simp)
                  case c2 => exact one_cell1 rfl
                  case c3 => unfold maxLen; omega
                  case c4 => omega
                  case c5 => simp; omega
                  intro v' w2 hown' hgrow _
                  have HO := Lib.hid (OwnS.snoc hown')
                  have hba : Below wo.heap.size wo ((wr.alloc (.cells #[.int .u8 (t : Int)] 5)).alloc (.cells #[.string (x ++ ⟨#[UInt8.ofNat t]⟩)] 9)) := Below.alloc (Below.alloc hb1 (by omega) _) (by simp; omega) _
                  have hb2 : Below wo.heap.size wo w2 := hba.grown hgrow (by simp; omega) (fun q hq => (hnx.lt q hq).1)
                  clear hown' hgrow hnx
                  go_wp2
                  go_roundw
                  case rel => exact ⟨t + 1, by omega, by go_num, by rw [HS.out, ← List.append_assoc, HNL.out]; exact HO.out, hb2⟩
                  case measure => simp [intOf]; omega
                · obtain rfl : T = t := by omega
                  have HX2 := Lib.hid (show nextW T (lasts.take (k + 1)) = nextW T (lasts.take k) ++ (List.range T).map fun t => x ++ ⟨#[UInt8.ofNat t]⟩ by rw [take_snoc' hkl, nextW_snoc, HX.out])
                  have HO := Lib.hid hnx
                  clear hnx
                  go_wp2
                  go_roundw
                  case rel => exact ⟨k + 1, by omega, by go_num, by rw [HX2.out]; exact HO.out, hb1⟩
                  case measure => simp [intOf]; omega
            · obtain rfl : k = lasts.length := by omega
              rw [List.take_length] at hnx
              have hwz := hb1.size
              have hnl : (nextW T lasts).length = lasts.length * T := nextW_length _ _
              have hnb := nextW_bound (T := T) hsb
              have hown1 := OwnS.below hown (C := wo.heap.size) (fun q hq => (hown.lt q hq).2) hb1
              have hbw : Below w.heap.size w wr := hbel.trans (hb1.mono hHsz)
              have hnn := hnx
              rcases hnx with ⟨hq1, ⟨rfl, hq2⟩ | ⟨g, cap, cur, rfl, hgB, hheap, hg1, hg2, hg3, hg4⟩⟩
              · have HZ := Lib.hid (show nextW T lasts = [] from List.eq_nil_of_length_eq_zero hq2)
                have HO := Lib.hid hown1
                clear hown1 hown hnn hnl hnb hq1
                go_wp2_with (at_builtin; refine wpList_append_own_none rfl (.tmp 61) (.tmp 62) 22 rfl w.heap.size 9 i0 1 Try.underlying22 hi _ _ _ rfl HO.out rfl ?_)
                go_roundw
                case rel => exact ⟨n - 1, outs, [], none, 0, by omega, by go_num, HO.out, rfl, ⟨rfl, fun h => absurd h (by simp)⟩, hbw, by rw [← HN.out, HZ.out, List.append_nil], by simp, hl2, (by intro s hs; simp at hs), hne⟩
                case measure => simp [intOf]; omega
              · have HO := Lib.hid hown1
                have HX := Lib.hid hnn
                have hnb1 := Lib.hid hnb
                have hgl := (hnn.lt g rfl).2
                have hnn2 : ∀ (j : Nat) (u : Value), ((nextW T lasts).map Value.string)[j]? = some u → wr.cell? ((⟨g, 0, none⟩ : Addr).add j) = some u := World.ownsRow.cells hnn rfl
                have hnl4 : (nextW T lasts).length + outs.length ≤ 4096 := by omega
                have hvb := (fun q hq => (hown1.lt q hq) : ∀ k, (Value.slice va outs.length vc).ownBlock = some k → w.heap.size ≤ k ∧ k < wr.heap.size)
                have hvb2 := (fun q hq => (hown.lt q hq).2 : ∀ k, (Value.slice va outs.length vc).ownBlock = some k → k < wo.heap.size)
                clear hown1 hown hnn hnb hq1 hg3 hg4 hheap hnl
                generalize nextW T lasts = nl at *
                go_wp2_with (at_builtin; refine wpList_append_own _ rfl (.tmp 61) (.tmp 62) 22 rfl w.heap.size 9 i0 (.string ByteArray.empty) 1 16 Try.underlying22 hi hz0 hz1 hz2 rfl (by decide) _ _ _ rfl HO.out ⟨g, 0, none⟩ nl.length cap (nl.map .string) rfl (by simp) hnn2 (strs_one _) ?d3 ?d4 ?d5 ?_)
                case d3 => unfold maxLen; omega
                case d4 => omega
                case d5 => omega
                intro v' w2 hown' hgrow _
                have HO2 := Lib.hid (show OwnS 9 w.heap.size w2 v' (outs ++ nl) by unfold OwnS; rw [List.length_append, List.map_append]; exact hown')
                have hb2 : Below w.heap.size w w2 := Below.grown hbw hgrow (by omega) (fun q hq => (hvb q hq).1)
                have HS2 := Lib.hid (show Strs w2 (some ⟨g, 0, none⟩) nl.length nl from by
                  have hk : OwnS 9 wo.heap.size w2 (.slice (some ⟨g, 0, none⟩) nl.length cap) nl := World.ownsRow.kept HX.out hgrow (.inr fun h => by
                    have := hvb2 g h.symm
                    omega)
                  obtain ⟨a', c', hv', hs', _⟩ := hk.strs
                  cases hv'; exact hs')
                clear hown' hgrow hnn2 hvb hvb2
                go_wp2
                go_roundw
                case rel => exact ⟨n - 1, outs ++ nl, nl, _, _, by omega, by go_num, HO2.out, rfl, HS2.out, hb2, HN.out, by omega, by rw [List.length_append]; omega, (by
                    rcases Nat.eq_zero_or_pos nl.length with h | h
                    · have := List.eq_nil_of_length_eq_zero h
                      subst this; intro s hs; simp at hs
                    · intro s hs; have := hnb1.out s hs; rw [List.length_append]; omega), by simp [hne]⟩
                case measure => simp [intOf]; omega
theorem all_any (T K : Int) (w : World) (hT : -9223372036854775808 ≤ T ∧ T ≤ 9223372036854775807) (hK : -9223372036854775808 ≤ K ∧ K ≤ 9223372036854775807) :
    Calls Try.prog 17 #[.int .i64 T, .int .i64 K] w (AllPost w (all T K)) := by
  by_cases h : T < 0 ∨ 256 < T ∨ K < 0
  · exact all_bad T K w h
  · obtain ⟨t, rfl⟩ := Int.eq_ofNat_of_zero_le (a := T) (by omega)
    obtain ⟨k, rfl⟩ := Int.eq_ofNat_of_zero_le (a := K) (by omega)
    exact all_good t k w (by omega) (by omega)

end Go.Proofs.Ytojonlkiokejoaa
