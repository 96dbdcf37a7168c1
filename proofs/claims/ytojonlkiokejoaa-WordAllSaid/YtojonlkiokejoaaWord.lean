/- The contracts of package word and of its reference, layer 18. -/
import Derived.Test.YtojonlkiokejoaaProg
import Derived.Test.YtojonlkiokejoaaBas
namespace Go.Proofs.Ytojonlkiokejoaa
open Go.RowKit

def qtxt (s : ByteArray) : ByteArray := ⟨#[39]⟩ ++ s ++ ⟨#[39]⟩
def stepT (ss : List ByteArray) (x : ByteArray) (k : Nat) (r : ByteArray) : ByteArray :=
  (if 0 < k then r ++ ⟨#[32]⟩ else r) ++ qtxt (ss.getD (bt x k) ⟨#[]⟩)
def textTo (ss : List ByteArray) (x : ByteArray) : Nat → ByteArray
  | 0 => ⟨#[]⟩
  | k + 1 => stepT ss x k (textTo ss x k)
def okTo (ss : List ByteArray) (x : ByteArray) (n : Nat) : Bool := (List.range n).all fun k => bt x k < ss.length
def text (ss : List ByteArray) (x : ByteArray) : ByteArray :=
  if x.size = 0 then ⟨#[101,110,100]⟩ else if okTo ss x x.size then textTo ss x x.size else ⟨#[]⟩

theorem textTo_size {n : Nat} {ss : List ByteArray} (h : SBound n ss) (x : ByteArray) (k : Nat) : (textTo ss x k).size ≤ k * (n + 3) := by
  induction k with
  | zero => simp [textTo, ByteArray.size]
  | succ k ih =>
    have h1 := getD_size h (bt x k)
    rw [Nat.succ_mul]
    simp only [textTo, stepT, qtxt]
    split <;> simp only [ByteArray.size_append, size_one] <;> omega
theorem okTo_snoc {ss : List ByteArray} {x : ByteArray} {k : Nat} (h : okTo ss x k = true) (hk : bt x k < ss.length) : okTo ss x (k + 1) = true := by
  unfold okTo at *; rw [List.range_succ, List.all_append, h]; simp [hk]
theorem okTo_not {ss : List ByteArray} {x : ByteArray} {k : Nat} (h : k < x.size) (hk : ss.length ≤ bt x k) : okTo ss x x.size = false := by
  unfold okTo; rw [List.all_eq_false]; exact ⟨k, by simpa using h, by simp; omega⟩
theorem text_bad {ss : List ByteArray} {x : ByteArray} {k : Nat} (h : k < x.size) (hk : ss.length ≤ bt x k) : text ss x = ⟨#[]⟩ := by
  unfold text; rw [if_neg (by omega), okTo_not h hk]; rfl
theorem text_all {ss : List ByteArray} {x : ByteArray} (h : 0 < x.size) (hk : okTo ss x x.size = true) : text ss x = textTo ss x x.size := by
  unfold text; rw [if_neg (by omega), hk]; rfl

set_option maxHeartbeats 400000 in
theorem quoted_out (c : Nat) (a : Option Addr) (len cap : Nat) (w : World) (h : len ≤ c) (hc : c < 256) :
    Calls Try.prog 40 #[.int .u8 c, .slice a len cap] w fun e w' => e = .returned (.tuple #[.string ⟨#[]⟩, .bool false]) ∧ w = w' := by
  go_enter Try.func40, Try.ntmps40
  go_wp2
  go_ret2
  exact ⟨rfl, rfl⟩

set_option maxHeartbeats 400000 in
theorem quoted_in (c : Nat) (b off len cap : Nat) (s : ByteArray) (w : World) (h : c < len) (hc : c < 256)
    (hcell : w.cell? ⟨b, off + c, none⟩ = some (.string s)) (hs : s.size ≤ 140737488355328) :
    Calls Try.prog 40 #[.int .u8 c, .slice (some ⟨b, off, none⟩) len cap] w fun e w' => e = .returned (.tuple #[.string (qtxt s), .bool true]) ∧ w = w' := by
  go_enter Try.func40, Try.ntmps40
  go_wp2
  go_ret2
  exact ⟨rfl, rfl⟩

set_option maxHeartbeats 400000 in
theorem text_nil (a : Option Addr) (len cap : Nat) (w : World) :
    Calls Try.prog 11 #[.string ⟨#[]⟩, .slice a len cap] w fun e w' => e = .returned (.string ⟨#[101,110,100]⟩) ∧ w = w' := by
  go_enter Try.func11, Try.ntmps11
  go_wp2
  go_ret
  exact ⟨rfl, rfl⟩

set_option maxHeartbeats 400000 in
theorem text_some (x : ByteArray) (a : Option Addr) (len cap : Nat) (ss : List ByteArray) (w : World) (hx : 0 < x.size) (hn : x.size ≤ 5000)
    (hs : Strs w a len ss) (hb : SBound 140737488355328 ss) :
    Calls Try.prog 11 #[.string x, .slice a len cap] w fun e w' => e = .returned (.string (text ss x)) ∧ w = w' := by
  have hx' := nonempty_toList hx
  obtain ⟨rfl, hcells⟩ := hs
  go_enter Try.func11, Try.ntmps11
  go_wp2
  go_loop [13, 5] (fun i o => ∃ k : Nat, k ≤ x.size ∧ i = .int .i64 k ∧ o = .string (textTo ss x k) ∧ okTo ss x k = true) (fun i _ => x.size - (intOf i).toNat)
  case atStart => exact ⟨0, by omega, rfl, rfl, rfl⟩
  case round =>
    obtain ⟨k, hk, rfl, rfl, hok⟩ := hrel
    have hsz := textTo_size hb x k
    have hsz2 : (textTo ss x k).size ≤ 5000 * (140737488355328 + 3) := Nat.le_trans hsz (Nat.mul_le_mul_right _ (by omega))
    by_cases hlt : k < x.size
    · have e := bt_eq hlt
      have hlt8 : x[k].toNat < 256 := UInt8.toNat_lt _
      by_cases hin : bt x k < ss.length
      · obtain ⟨b, off, rfl, hblk, hcell⟩ := hcells (by omega)
        have hc1 := hcell _ hin
        have hin' : x[k].toNat < ss.length := by omega
        obtain ⟨s, hs⟩ : ∃ s, s = ss.getD (bt x k) ⟨#[]⟩ := ⟨_, rfl⟩
        have hc2 : w.cell? ⟨b, off + x[k].toNat, none⟩ = some (.string s) := by rw [← e, hc1, hs, getD_at hin]
        have hs3 : s.size ≤ 140737488355328 := by rw [hs]; exact getD_size hb _
        have hq : (qtxt s).size ≤ 140737488355328 + 2 := by simp only [qtxt, ByteArray.size_append, size_one]; omega
        have hsp : (ByteArray.mk #[32]).size = 1 := rfl
        have HT := Lib.hid (show textTo ss x (k + 1) = stepT ss x k (textTo ss x k) from rfl)
        have HS := Lib.hid hs
        have HOK := Lib.hid (okTo_snoc hok hin)
        clear hs e hc1 hcell hok hcells
        generalize textTo ss x k = o at *
        by_cases hk0 : 0 < k
        · go_wp2_with (go_at_call 40; refine (quoted_in _ _ _ _ _ _ _ hin' hlt8 hc2 hs3).mono ?_; rintro e w' ⟨rfl, rfl⟩)
          go_round
          case rel => exact ⟨k + 1, by omega, by go_num, by rw [HT.out, stepT, if_pos hk0, HS.out], HOK.out⟩
          case measure => simp [intOf]; omega
        · go_wp2_with (go_at_call 40; refine (quoted_in _ _ _ _ _ _ _ hin' hlt8 hc2 hs3).mono ?_; rintro e w' ⟨rfl, rfl⟩)
          go_round
          case rel => exact ⟨k + 1, by omega, by go_num, by rw [HT.out, stepT, if_neg hk0, HS.out], HOK.out⟩
          case measure => simp [intOf]; omega
      · have hin' : ss.length ≤ x[k].toNat := by omega
        have HH := Lib.hid (text_bad hlt (by omega : ss.length ≤ bt x k))
        clear e hin
        go_wp2_with (go_at_call 40; refine (quoted_out _ _ _ _ _ hin' hlt8).mono ?_; rintro e w' ⟨rfl, rfl⟩)
        go_ret
        exact ⟨by rw [HH.out]; rfl, rfl⟩
    · obtain rfl : k = x.size := by omega
      have HH := Lib.hid (text_all hx hok)
      go_wp2
      go_ret
      exact ⟨by rw [HH.out]; rfl, rfl⟩

/-- Text, whatever the word (up to 5000 bytes) -/
theorem text_any (x : ByteArray) (a : Option Addr) (len cap : Nat) (ss : List ByteArray) (w : World) (hn : x.size ≤ 5000)
    (hs : Strs w a len ss) (hb : SBound 140737488355328 ss) :
    Calls Try.prog 11 #[.string x, .slice a len cap] w fun e w' => e = .returned (.string (text ss x)) ∧ w = w' := by
  by_cases hx : x.size = 0
  · have := empty_of_size hx; subst this
    exact text_nil a len cap w
  · exact text_some x a len cap ss w (by omega) hn hs hb

/-! ### Cut, Cat -/
def cut (x : ByteArray) (k : Int) : ByteArray := x.extract 0 (min k.toNat x.size)
theorem cut_neg {x : ByteArray} {k : Int} (h : k ≤ 0) : cut x k = ⟨#[]⟩ := by
  unfold cut; rw [show k.toNat = 0 by omega]; apply empty_of_size; simp
theorem cut_all {x : ByteArray} {k : Int} (h : (x.size : Int) ≤ k) : cut x k = x := by
  unfold cut; rw [Nat.min_eq_right (by omega)]; simp
theorem cut_mid {x : ByteArray} {k : Int} (h : k ≤ (x.size : Int)) : cut x k = x.extract 0 k.toNat := by
  unfold cut; rw [Nat.min_eq_left (by omega)]

set_option maxHeartbeats 400000 in
theorem cut_any (x : ByteArray) (k : Int) (w : World) (hx : x.size ≤ 9223372036854775807) (hk : -9223372036854775808 ≤ k ∧ k ≤ 9223372036854775807) :
    Calls Try.prog 12 #[.string x, .int .i64 k] w fun e w' => e = .returned (.string (cut x k)) ∧ w = w' := by
  by_cases hxz : x.size = 0
  · have := empty_of_size hxz; subst this
    have HC := Lib.hid (show cut ⟨#[]⟩ k = ⟨#[]⟩ by unfold cut; apply empty_of_size; simp [ByteArray.size])
    go_enter Try.func12, Try.ntmps12
    go_wp2
    all_goals (go_ret; exact ⟨by rw [HC.out]; rfl, rfl⟩)
  rcases Int.lt_or_le 0 k with h0 | h0
  · rcases Int.lt_or_le (x.size : Int) k with h1 | h1
    · have HC := Lib.hid (cut_all (x := x) (k := k) (by omega))
      go_enter Try.func12, Try.ntmps12
      go_wp2
      all_goals (go_ret; exact ⟨by rw [HC.out]; rfl, rfl⟩)
    · have HC := Lib.hid (cut_mid (x := x) (k := k) (by omega))
      go_enter Try.func12, Try.ntmps12
      go_wp2
      all_goals (go_ret; exact ⟨by rw [HC.out]; rfl, rfl⟩)
  · have HC := Lib.hid (cut_neg (x := x) (k := k) (by omega))
    have h1 : k ≤ (x.size : Int) := by omega
    go_enter Try.func12, Try.ntmps12
    go_wp2
    all_goals (go_ret; exact ⟨by rw [HC.out]; rfl, rfl⟩)

set_option maxHeartbeats 400000 in
theorem refcut_any (x : ByteArray) (k : Int) (w : World) (hx : x.size ≤ 9223372036854775807) (hk : -9223372036854775808 ≤ k ∧ k ≤ 9223372036854775807) :
    Calls Try.prog 13 #[.string x, .int .i64 k] w fun e w' => e = .returned (.string (cut x k)) ∧ w = w' := by
  rcases Int.lt_or_le k 0 with h0 | h0
  · have HC := Lib.hid (cut_neg (x := x) (k := k) (by omega))
    go_enter Try.func13, Try.ntmps13
    go_wp2
    all_goals (go_ret; exact ⟨by rw [HC.out]; rfl, rfl⟩)
  · rcases Int.lt_or_le k (x.size : Int) with h1 | h1
    · have HC := Lib.hid (cut_mid (x := x) (k := k) (by omega))
      go_enter Try.func13, Try.ntmps13
      go_wp2
      all_goals (go_ret; exact ⟨by rw [HC.out]; rfl, rfl⟩)
    · have HC := Lib.hid (cut_all (x := x) (k := k) (by omega))
      go_enter Try.func13, Try.ntmps13
      go_wp2
      all_goals (go_ret; exact ⟨by rw [HC.out]; rfl, rfl⟩)

def catTo (ss : List ByteArray) (k : Int) : Nat → ByteArray
  | 0 => ⟨#[]⟩
  | n + 1 => if k ≤ ((catTo ss k n).size : Int) then catTo ss k n else catTo ss k n ++ ss.getD n ⟨#[]⟩
def cat (ss : List ByteArray) (k : Int) : ByteArray := cut (catTo ss k ss.length) k
theorem catTo_stop {ss : List ByteArray} {k : Int} {n : Nat} (h : k ≤ ((catTo ss k n).size : Int)) (m : Nat) : catTo ss k (n + m) = catTo ss k n := by
  induction m with
  | zero => rfl
  | succ m ih => rw [← Nat.add_assoc, catTo, ih, if_pos h]
theorem catTo_size {ss : List ByteArray} {N : Nat} (h : SBound N ss) (k : Int) (n : Nat) : (catTo ss k n).size ≤ n * N := by
  induction n with
  | zero => simp [catTo, ByteArray.size]
  | succ n ih =>
    have := getD_size h n
    rw [Nat.succ_mul, catTo]
    split
    · omega
    · rw [ByteArray.size_append]; omega

set_option maxHeartbeats 400000 in
theorem cat_any (k : Int) (a : Option Addr) (len cap : Nat) (ss : List ByteArray) (w : World) (hk : -9223372036854775808 ≤ k ∧ k ≤ 9223372036854775807) (hlen : len ≤ 5000)
    (hs : Strs w a len ss) (hb : SBound 140737488355328 ss) :
    Calls Try.prog 14 #[.int .i64 k, .slice a len cap] w fun e w' => e = .returned (.string (cat ss k)) ∧ w = w' := by
  obtain ⟨rfl, hcells⟩ := hs
  go_enter Try.func14, Try.ntmps14
  go_wp2
  go_loop [10, 5] (fun i o => ∃ n : Nat, n ≤ ss.length ∧ i = .int .i64 n ∧ o = .string (catTo ss k n)) (fun i _ => ss.length - (intOf i).toNat)
  case atStart => exact ⟨0, by omega, rfl, rfl⟩
  case round =>
    obtain ⟨n, hn, rfl, rfl⟩ := hrel
    have hsz : (catTo ss k n).size ≤ 5000 * 140737488355328 := Nat.le_trans (catTo_size hb k n) (Nat.mul_le_mul_right _ (by omega))
    by_cases hlt : n < ss.length
    · obtain ⟨b, off, rfl, hblk, hcell⟩ := hcells (by omega)
      have hc1 := hcell _ hlt
      have hs3 : (ss[n]).size ≤ 140737488355328 := hb _ (List.getElem_mem _)
      have HT := Lib.hid (show catTo ss k (n + 1) = if k ≤ ((catTo ss k n).size : Int) then catTo ss k n else catTo ss k n ++ ss.getD n ⟨#[]⟩ from rfl)
      have HG := Lib.hid (getD_at hlt)
      by_cases hst : k ≤ ((catTo ss k n).size : Int)
      · have HC := Lib.hid (show cut (catTo ss k n) k = cat ss k by
          unfold cat; rw [show ss.length = n + (ss.length - n) by omega, catTo_stop hst])
        clear hcell hcells
        generalize catTo ss k n = o at *
        generalize ss[n] = s at *
        go_wp2_with (go_at_call 12; refine (cut_any _ _ _ (by omega) hk).mono ?_; rintro e w' ⟨rfl, rfl⟩)
        go_ret
        exact ⟨by rw [← HC.out]; rfl, rfl⟩
      · clear hcell hcells
        have hst' : ((catTo ss k n).size : Int) < k := by omega
        generalize hO : catTo ss k n = o at *
        have HO := Lib.hid hO
        generalize hS : ss[n] = s at *
        have HS := Lib.hid hS
        clear hO hS
        go_wp2_with fail
        go_round
        case rel => exact ⟨n + 1, by omega, by go_num, by rw [HT.out, if_neg hst, HG.out]⟩
        case measure => simp [intOf]; omega
    · obtain rfl : n = ss.length := by omega
      have HC := Lib.hid (show cut (catTo ss k ss.length) k = cat ss k from rfl)
      clear hcells
      generalize catTo ss k ss.length = o at *
      go_wp2_with (go_at_call 12; refine (cut_any _ _ _ (by omega) hk).mono ?_; rintro e w' ⟨rfl, rfl⟩)
      go_ret
      exact ⟨by rw [← HC.out]; rfl, rfl⟩

/-! ### Valid -/
def valid (x : ByteArray) (terms k : Int) : Bool := decide (∀ i, i < x.size → (bt x i : Int) < terms) && decide ((x.size : Int) ≤ k)

set_option maxHeartbeats 400000 in
theorem refvalid_any (x : ByteArray) (terms k : Int) (w : World) (hx : x.size ≤ 9223372036854775807) (hk : -9223372036854775808 ≤ k ∧ k ≤ 9223372036854775807) (ht : -9223372036854775808 ≤ terms ∧ terms ≤ 9223372036854775807) :
    Calls Try.prog 16 #[.string x, .int .i64 terms, .int .i64 k] w fun e w' => e = .returned (.bool (valid x terms k)) ∧ w = w' := by
  by_cases h0 : k < (x.size : Int)
  · have HC := Lib.hid (show valid x terms k = false by unfold valid; rw [decide_eq_false (by omega : ¬ (x.size : Int) ≤ k)]; simp)
    go_enter Try.func16, Try.ntmps16
    go_wp2
    go_ret
    exact ⟨by rw [HC.out]; rfl, rfl⟩
  · have h0' : (x.size : Int) ≤ k := by omega
    clear h0
    go_enter Try.func16, Try.ntmps16
    go_wp2
    go_loop [7] (fun i => ∃ n : Nat, n ≤ x.size ∧ i = .int .i64 n ∧ ∀ j, j < n → (bt x j : Int) < terms) (fun i => x.size - (intOf i).toNat)
    case atStart => exact ⟨0, by omega, rfl, fun j hj => absurd hj (by omega)⟩
    case round =>
      obtain ⟨n, hn, rfl, hall⟩ := hrel
      by_cases hlt : n < x.size
      · have e := bt_eq hlt
        have h8 : x[n].toNat < 256 := UInt8.toNat_lt _
        by_cases hbad : (bt x n : Int) < terms
        · have HA := Lib.hid (show ∀ j, j < n + 1 → (bt x j : Int) < terms from fun j hj => by
            rcases Nat.lt_or_ge j n with h | h
            · exact hall j h
            · rw [show j = n by omega]; exact hbad)
          have hb2 : (x[n].toNat : Int) < terms := by omega
          clear hall e hbad
          go_wp2
          go_round
          case rel => exact ⟨n + 1, by omega, by go_num, HA.out⟩
          case measure => simp [intOf]; omega
        · have HC := Lib.hid (show valid x terms k = false by unfold valid; rw [decide_eq_false (fun h => hbad (h n hlt))]; rfl)
          have hb2 : ¬ (x[n].toNat : Int) < terms := by omega
          clear hall e hbad
          go_wp2
          go_ret
          exact ⟨by rw [HC.out]; rfl, rfl⟩
      · have HC := Lib.hid (show valid x terms k = true by unfold valid; rw [decide_eq_true (fun j hj => hall j (by omega)), decide_eq_true h0']; rfl)
        clear hall
        go_wp2
        go_ret
        exact ⟨by rw [HC.out]; rfl, rfl⟩

set_option maxHeartbeats 400000 in
theorem valid_any (x : ByteArray) (terms k : Int) (w : World) (hx : x.size ≤ 281474976710656) (hk : -9223372036854775808 ≤ k ∧ k ≤ 9223372036854775807) (ht : -9223372036854775808 ≤ terms ∧ terms ≤ 9223372036854775807) :
    Calls Try.prog 15 #[.string x, .int .i64 terms, .int .i64 k] w fun e w' => e = .returned (.bool (valid x terms k)) ∧ Below w.heap.size w w' := by
  have kb := fun (W : World) => run_bytes_of_string (P := Try.prog) W 9 32 5 x Try.underlying9 Try.underlying32 Try.underlying5
  have hcell : ∀ n (h : n < x.size), (w.alloc (.cells (bytesRow x (grownCap w x.size 0 5)) 5 ((bytesRow x (grownCap w x.size 0 5)).size, (bytesRow x (grownCap w x.size 0 5)).size + 1))).drew.cell? ⟨w.heap.size, n, none⟩ = some (.int .u8 (x[n].toNat : Int)) :=
    fun n h => (World.cell?_alloc_mark w _ _ _ n).trans (bytesRow_at x _ n h)
  have hbel : Below w.heap.size w (w.alloc (.cells (bytesRow x (grownCap w x.size 0 5)) 5 ((bytesRow x (grownCap w x.size 0 5)).size, (bytesRow x (grownCap w x.size 0 5)).size + 1))).drew :=
    ((Below.refl _ _).alloc (Nat.le_refl _) _).drew
  go_enter Try.func15, Try.ntmps15
  go_wp2
  go_loop [12] (fun i => ∃ n : Nat, n ≤ x.size ∧ i = .int .i64 n ∧ ∀ j, j < n → (bt x j : Int) < terms) (fun i => x.size - (intOf i).toNat)
  case atStart => exact ⟨0, by omega, rfl, fun j hj => absurd hj (by omega)⟩
  case round =>
    obtain ⟨n, hn, rfl, hall⟩ := hrel
    by_cases hlt : n < x.size
    · have e := bt_eq hlt
      have h8 : x[n].toNat < 256 := UInt8.toNat_lt _
      have hc1 := hcell n hlt
      by_cases hbad : (bt x n : Int) < terms
      · have HA := Lib.hid (show ∀ j, j < n + 1 → (bt x j : Int) < terms from fun j hj => by
          rcases Nat.lt_or_ge j n with h | h
          · exact hall j h
          · rw [show j = n by omega]; exact hbad)
        have hb2 : (x[n].toNat : Int) < terms := by omega
        clear hall e hbad hcell
        go_wp2
        go_round
        case rel => exact ⟨n + 1, by omega, by go_num, HA.out⟩
        case measure => simp [intOf]; omega
      · have HC := Lib.hid (show valid x terms k = false by unfold valid; rw [decide_eq_false (fun h => hbad (h n hlt))]; rfl)
        have hb2 : ¬ (x[n].toNat : Int) < terms := by omega
        clear hall e hbad hcell
        go_wp2
        go_ret
        exact ⟨by rw [HC.out]; rfl, hbel⟩
    · have HC := Lib.hid (show valid x terms k = decide ((x.size : Int) ≤ k) by unfold valid; rw [decide_eq_true (fun j hj => hall j (by omega))]; rfl)
      clear hall hcell
      go_wp2
      go_ret
      exact ⟨by rw [HC.out]; rfl, hbel⟩

end Go.Proofs.Ytojonlkiokejoaa
