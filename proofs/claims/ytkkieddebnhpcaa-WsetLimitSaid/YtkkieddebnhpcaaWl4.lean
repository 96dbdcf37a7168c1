/- Sets of words: words of one byte. -/
import Derived.Test.YtkkieddebnhpcaaWsA
set_option linter.unusedSimpArgs false
set_option linter.unusedVariables false
set_option maxRecDepth 100000
set_option maxHeartbeats 4000000
namespace Go.Proofs.Ytkkieddebnhpcaa.A
open Go
def b1 (k : Nat) : ByteArray := ⟨⟨[UInt8.ofNat k]⟩⟩
def oneW (i : Int) : List ByteArray := (List.range i.toNat).map b1
theorem oneW_len {i : Int} (h : 0 ≤ i) : (nS (oneW i) : Int) = i := by
  unfold oneW; rw [nS_eq, List.length_map, List.length_range]; omega
theorem oneW_snoc {i : Int} (h : 0 ≤ i) : oneW (i + 1) = oneW i ++ [b1 i.toNat] := by
  unfold oneW
  rw [show (i + 1).toNat = i.toNat + 1 by omega, List.range_succ, List.map_append]; rfl
theorem b1_size (k : Nat) : (b1 k).size = 1 := rfl
theorem oneW_size {i : Int} : ∀ s ∈ oneW i, s.size ≤ 1 := by
  intro s hs
  unfold oneW at hs
  obtain ⟨k, _, rfl⟩ := List.mem_map.1 hs
  exact Nat.le_refl _
theorem u8_lt {a b : Nat} (h : a < b) (hb : b < 256) : UInt8.ofNat a < UInt8.ofNat b := by
  rw [UInt8.lt_iff_toNat_lt, UInt8.toNat_ofNat', UInt8.toNat_ofNat', Nat.mod_eq_of_lt (by omega), Nat.mod_eq_of_lt (by omega)]; exact h
theorem lt1 {a b : Nat} (h : a < b) (hb : b < 256) : ltS (b1 a) (b1 b) = true := by
  rw [ltS_iff]
  show [UInt8.ofNat a] < [UInt8.ofNat b]
  exact List.cons_lt_cons_iff.2 (.inl (u8_lt h hb))
theorem oneW_set {i : Int} (h : i ≤ 256) : Set' (oneW i) := by
  unfold oneW
  rw [Set', List.pairwise_map]
  refine List.Pairwise.imp_of_mem (fun {a b} ha hb hab => lt1 hab ?_) List.pairwise_lt_range
  have := List.mem_range.1 hb
  omega
theorem cut2 (a b : Nat) : cutS (b1 a ++ b1 b) 2 = b1 a ++ b1 b := by
  have h : (b1 a ++ b1 b).size = 2 := by rw [ByteArray.size_append]; rfl
  unfold cutS; rw [if_neg (by omega), if_pos (by omega)]
theorem bL2 (a b : Nat) : bL (b1 a ++ b1 b) = [UInt8.ofNat a, UInt8.ofNat b] := by
  unfold bL; rw [ByteArray.data_append]; simp [b1]
theorem prod2_set {n m : Int} (hn : n ≤ 256) (hm : m ≤ 256) : Set' (prodS 2 (oneW n) (oneW m)) := by
  unfold prodS rowS oneW
  rw [Set', List.flatMap_map, List.pairwise_flatMap]
  constructor
  · intro a ha
    rw [List.pairwise_map, List.pairwise_map]
    refine List.Pairwise.imp_of_mem (fun {x y} hx hy hxy => ?_) List.pairwise_lt_range
    rw [cut2, cut2, ltS_iff, bL2, bL2]
    have := List.mem_range.1 hy
    exact List.cons_lt_cons_iff.2 (.inr ⟨rfl, List.cons_lt_cons_iff.2 (.inl (u8_lt hxy (by omega)))⟩)
  · refine List.Pairwise.imp_of_mem (fun {a b} ha hb hab => ?_) List.pairwise_lt_range
    intro x hx y hy
    obtain ⟨x1, hx1, rfl⟩ := List.mem_map.1 hx
    obtain ⟨y1, hy1, rfl⟩ := List.mem_map.1 hy
    obtain ⟨x2, hx2, rfl⟩ := List.mem_map.1 hx1
    obtain ⟨y2, hy2, rfl⟩ := List.mem_map.1 hy1
    rw [cut2, cut2, ltS_iff, bL2, bL2]
    have := List.mem_range.1 hb
    exact List.cons_lt_cons_iff.2 (.inl (u8_lt hab (by omega)))
theorem prod2_len {n m : Int} (h1 : 0 ≤ n) (h2 : 0 ≤ m) : ((prodS 2 (oneW n) (oneW m)).length : Int) = n * m := by
  have e1 := oneW_len h1
  have e2 := oneW_len h2
  rw [nS_eq] at e1 e2
  rw [prod_len, Int.natCast_mul, e1, e2]
theorem prod1_set {n m : Int} (h2 : 0 < m) (hn : n ≤ 256) : setS (prodS 1 (oneW n) (oneW m)) = oneW n := by
  rw [← setS_of (oneW_set hn)]
  rw [setS_of (oneW_set hn)]
  refine (setS_same fun w => ?_).trans (setS_of (oneW_set hn))
  unfold prodS rowS
  simp only [List.mem_flatMap, List.mem_map]
  have hc : ∀ x ∈ oneW n, ∀ y, cutS (x ++ y) 1 = x := by
    intro x hx y
    unfold oneW at hx
    obtain ⟨k, _, rfl⟩ := List.mem_map.1 hx
    rw [cutS_long (by rw [b1_size]; omega)]
    unfold cutS; rw [if_neg (by omega), if_pos (by rw [b1_size]; omega)]
  constructor
  · rintro ⟨x, hx, y, hy, rfl⟩
    rw [hc x hx]; exact hx
  · intro hw
    exact ⟨w, hw, b1 0, by unfold oneW; exact List.mem_map.2 ⟨0, List.mem_range.2 (by omega), rfl⟩, hc w hw _⟩
theorem prod1_nil {n : Int} : setS (prodS 1 (oneW n) (oneW 0)) = [] := by
  have : prodS 1 (oneW n) (oneW 0) = [] := by unfold prodS rowS; simp [oneW]
  rw [this]; rfl
theorem ok2 {n m : Int} (h1 : 0 ≤ n) (h2 : 0 ≤ m) (hn : n ≤ 256) (hm : m ≤ 256) : okC 2 (oneW n) (oneW m) = decide (n * m ≤ 4096) := by
  unfold okC
  rw [setS_of (prod2_set hn hm)]
  have := prod2_len h1 h2
  rw [Bool.eq_iff_iff, decide_eq_true_eq, decide_eq_true_eq]; omega
theorem cat2 {n m : Int} (hn : n ≤ 256) (hm : m ≤ 256) : catR 2 (oneW n) (oneW m) = if okC 2 (oneW n) (oneW m) = true then prodS 2 (oneW n) (oneW m) else [] := by
  unfold catR; rw [setS_of (prod2_set hn hm)]
theorem ok1 {n m : Int} (h1 : 0 ≤ n) (h2 : 0 ≤ m) (hn : n ≤ 256) : okC 1 (oneW n) (oneW m) = true := by
  unfold okC
  have e := oneW_len h1
  rw [nS_eq] at e
  by_cases hm : 0 < m
  · rw [prod1_set hm hn]; simp only [decide_eq_true_eq]; omega
  · obtain rfl : m = 0 := by omega
    rw [prod1_nil]; simp
theorem cat1 {n m : Int} (h1 : 0 ≤ n) (h2 : 0 ≤ m) (hn : n ≤ 256) : catR 1 (oneW n) (oneW m) = if 0 < m then oneW n else [] := by
  unfold catR
  rw [if_pos (ok1 h1 h2 hn)]
  split
  · rename_i hm; exact prod1_set hm hn
  · obtain rfl : m = 0 := by omega
    exact prod1_nil
theorem catR_few {k : Int} {a b : List ByteArray} : nS (catR k a b) ≤ 4096 := by
  unfold catR
  split
  · rename_i h
    unfold okC at h
    rw [nS_eq]; simpa using h
  · exact Nat.zero_le _
theorem mul64 {a b : Int} (h1 : 0 ≤ a) (h2 : 0 ≤ b) (h3 : a ≤ 256) (h4 : b ≤ 256) : arithI .mul .i64 a b = a * b := by
  have h5 : a * b ≤ 256 * 256 := Int.mul_le_mul h3 h4 h2 (by omega)
  have h6 : 0 ≤ a * b := Int.mul_nonneg h1 h2
  exact wrap64 (by omega) (by omega)
/-- what a byte is turned into -/
theorem bytes1 {i : Int} (h0 : 0 ≤ i) (h : i < 256) : bytesC [.val (.int .u8 (IntKind.wrap .u8 i))] = b1 i.toNat := by
  have e : IntKind.wrap .u8 i = i := by simp [IntKind.wrap, IntKind.bits, IntKind.signed]; omega
  rw [e]; rfl
theorem isB1 {i : Int} : isBytesC [.val (.int .u8 (IntKind.wrap .u8 i))] := by
  intro c hc
  rw [List.mem_singleton.1 hc]
  refine ⟨UInt8.ofNat (IntKind.wrap .u8 i).toNat, ?_⟩
  have h : 0 ≤ IntKind.wrap .u8 i ∧ IntKind.wrap .u8 i < 256 := by simp [IntKind.wrap, IntKind.bits, IntKind.signed]; omega
  rw [UInt8.toNat_ofNat', Nat.mod_eq_of_lt (by omega)]
  congr 2
  omega
end Go.Proofs.Ytkkieddebnhpcaa.A
