/- the walk of repertorylaw18.WordTexts -/
import Derived.Test.YtojonlkiokejoaaWord18
import Derived.Test.YtojonlkiokejoaaRead
namespace Go.Proofs.Ytojonlkiokejoaa
open Go.RowKit

theorem strs_of_sl {w : World} {a : Option Addr} {len cap : Nat} {ss : List ByteArray} (h : (RSl 1 16 RStr) w [.slice a len cap] ss) : Strs w a len ss ∧ SBound 140737488351232 ss ∧ len ≤ cap ∧ cap * 16 ≤ 140737488351232 := by
  obtain ⟨a', cap', he, hs, h1, h2, _⟩ := h
  simp at he
  obtain ⟨rfl, rfl, rfl⟩ := he
  refine ⟨⟨rfl, fun h0 => ?_⟩, fun s hs' => ?_, h1, h2⟩
  · obtain ⟨b, off, rfl, hlt, hc⟩ := hs h0
    refine ⟨b, off, rfl, hlt, fun i hi => ?_⟩
    obtain ⟨cs, hl, hcell, he, _⟩ := hc i hi
    have := hcell 0 (by omega)
    rw [he] at this
    simpa using this
  · obtain ⟨i, hi, rfl⟩ := List.mem_iff_getElem.1 hs'
    obtain ⟨b, off, rfl, hlt, hc⟩ := hs (by omega)
    obtain ⟨cs, hl, hcell, he, hb⟩ := hc i hi
    exact hb
theorem SBound.mono {n m : Nat} {ss : List ByteArray} (h : SBound n ss) (hm : n ≤ m) : SBound m ss := fun s hs => Nat.le_trans (h s hs) hm

set_option maxHeartbeats 1000000 in
theorem wordTexts_walk (w : World) (x : ByteArray) (hx : x.size ≤ 140737488351232) (a : Option Addr) (len cap : Nat) (ss : List ByteArray) (hr : (RSl 1 16 RStr) w [.slice a len cap] ss) :
    Calls Try.prog 3 #[.string x, .slice a len cap] w fun e w' => e = .returned (.bool true) ∧ Below w.heap.size w w' := by
  obtain ⟨hs, hsb, hlc, hcap⟩ := strs_of_sl hr
  clear hr
  by_cases h1 : 50 < x.size
  · go_enter Try.func3, Try.ntmps3
    go_wp2_with (go_at_call 10; refine (awake18 _).mono ?_; rintro e w' ⟨rfl, hb⟩)
    go_ret
    exact ⟨rfl, hb⟩
  · by_cases h2 : 100 < len
    · go_enter Try.func3, Try.ntmps3
      go_wp2_with (go_at_call 10; refine (awake18 _).mono ?_; rintro e w' ⟨rfl, hb⟩)
      go_ret
      exact ⟨rfl, hb⟩
    · have hsb' : SBound 140737488355328 ss := hsb.mono (by omega)
      go_enter Try.func3, Try.ntmps3
      go_wp2
      go_loop [6, 5] (fun i o => ∃ k : Nat, k ≤ x.size ∧ i = .int .i64 k ∧ o = .string (textTo ss x k) ∧ okTo ss x k = true) (fun i _ => x.size - (intOf i).toNat)
      case atStart => exact ⟨0, by omega, rfl, rfl, rfl⟩
      case round =>
        obtain ⟨k, hk, rfl, rfl, hok⟩ := hrel
        have hsz2 : (textTo ss x k).size ≤ 50 * (140737488355328 + 3) := Nat.le_trans (textTo_size hsb' x k) (Nat.mul_le_mul_right _ (by omega))
        by_cases hlt : k < x.size
        · have e := bt_eq hlt
          have hlt8 : x[k].toNat < 256 := UInt8.toNat_lt _
          by_cases hin : bt x k < ss.length
          · have hlen := hs.1
            obtain ⟨b, off, rfl, hblk, hcell⟩ := hs.2 (by omega)
            have hc1 := hcell _ hin
            have hin' : x[k].toNat < len := by omega
            obtain ⟨s, hs'⟩ : ∃ s, s = ss.getD (bt x k) ⟨#[]⟩ := ⟨_, rfl⟩
            have hc2 : w.cell? ⟨b, off + x[k].toNat, none⟩ = some (.string s) := by rw [← e, hc1, hs', getD_at hin]
            have hs3 : s.size ≤ 140737488355328 := by rw [hs']; exact getD_size hsb' _
            have hq1 : (ByteArray.mk #[39]).size = 1 := rfl
            have hsp : (ByteArray.mk #[32]).size = 1 := rfl
            have HT := Lib.hid (show textTo ss x (k + 1) = stepT ss x k (textTo ss x k) from rfl)
            have HS := Lib.hid hs'
            have HOK := Lib.hid (okTo_snoc hok hin)
            clear hs' e hc1 hcell hok hs hlen
            generalize textTo ss x k = o at *
            by_cases hk0 : 0 < k
            · go_wp2
              go_round
              case rel => exact ⟨k + 1, by omega, by go_num, by rw [HT.out, stepT, if_pos hk0, HS.out, qtxt]; simp only [ByteArray.append_assoc], HOK.out⟩
              case measure => simp [intOf]; omega
            · go_wp2
              go_round
              case rel => exact ⟨k + 1, by omega, by go_num, by rw [HT.out, stepT, if_neg hk0, HS.out, qtxt]; simp only [ByteArray.append_assoc], HOK.out⟩
              case measure => simp [intOf]; omega
          · have hlen := hs.1
            have hin' : len ≤ x[k].toNat := by omega
            have HH := Lib.hid (text_bad hlt (by omega : ss.length ≤ bt x k))
            have HSS := Lib.hid hs
            clear e hin hs hlen
            go_wp2_with fail
            refine (text_any x a len cap ss w (by omega) HSS.out hsb').mono ?_
            rintro e w' ⟨rfl, rfl⟩
            rw [HH.out]
            go_wp2_with (go_at_call 10; refine (awake18 _).mono ?_; rintro e w' ⟨rfl, hb⟩)
            go_ret
            exact ⟨rfl, hb⟩
        · obtain rfl : k = x.size := by omega
          have HSS := Lib.hid hs
          by_cases hx0 : x.size = 0
          · have := empty_of_size hx0
            subst this
            clear hs
            go_wp2_with fail
            refine (text_any _ a len cap ss w (by omega) HSS.out hsb').mono ?_
            rintro e w' ⟨rfl, rfl⟩
            rw [show text ss ⟨#[]⟩ = ⟨#[101, 110, 100]⟩ from rfl]
            go_wp2_with (go_at_call 10; refine (awake18 _).mono ?_; rintro e w' ⟨rfl, hb⟩)
            go_ret
            exact ⟨rfl, hb⟩
          · have hx' := nonempty_toList (show 0 < x.size by omega)
            have HH := Lib.hid (text_all (show 0 < x.size by omega) hok)
            clear hs hok
            go_wp2_with fail
            refine (text_any _ a len cap ss w (by omega) HSS.out hsb').mono ?_
            rintro e w' ⟨rfl, rfl⟩
            rw [HH.out]
            go_wp2_with (go_at_call 10; refine (awake18 _).mono ?_; rintro e w' ⟨rfl, hb⟩)
            go_ret
            exact ⟨rfl, hb⟩
end Go.Proofs.Ytojonlkiokejoaa
