/- The ghost machine, part 32: obligations by their heads. -/
import Derived.Test.YtdmdcmhgfgookaaAm31
set_option linter.unusedSimpArgs false
set_option linter.unusedVariables false
set_option maxRecDepth 100000
set_option maxHeartbeats 4000000
namespace Go.Proofs.Ytdmdcmhgfgookaa.A
open Go
variable {P : Program} {T : TT} {j : J}
theorem ob_le (hj : j = std P T) {a b : Nat} (h : a ≤ b) : j.le a b := by rw [hj]; exact h
theorem ob_lei (hj : j = std P T) {a b : Int} (h : a ≤ b) : j.lei a b := by rw [hj]; exact h
theorem ob_inb (hj : j = std P T) {i : Int} {n : Nat} (h : 0 ≤ i ∧ i < (n : Int)) : j.inb i n := by rw [hj]; exact h
theorem ob_pos (hj : j = std P T) {n : Nat} (h : 0 < n) : j.pos n := by rw [hj]; exact h
theorem ob_ne0 (hj : j = std P T) {n : Int} (h : n ≠ 0) : j.ne0 n := by rw [hj]; exact h
theorem ob_eqb (hj : j = std P T) {a b : Bool} (h : a = b) : j.eqb a b := by rw [hj]; exact h
theorem ob_isBytes (hj : j = std P T) {cs : List C} (h : isBytesC cs) : j.isBytes cs := by rw [hj]; exact h
theorem ob_vals (hj : j = std P T) {cs : List C} (h : ∀ c ∈ cs, ∃ v, c = .val v) : j.vals cs := by rw [hj]; exact h
theorem ob_pcn (hj : j = std P T) {f : FuncId} {as : List Arg} {row : List RC} (h : (std P T).pcn f as row) : j.pcn f as row := by rw [hj]; exact h
theorem ob_pc (hj : j = std P T) {f : FuncId} {as : List Arg} {r : RV} {u : List Root} (h : (std P T).pc f as r u) : j.pc f as r u := by rw [hj]; exact h
theorem ob_int (hj : j = std P T) {k : IntKind} {c : C} (n : Int) (h : c = .val (.int k n)) : j.ok (.int k) c := by rw [hj]; exact ⟨n, h⟩
theorem ob_bool (hj : j = std P T) {c : C} (b : Bool) (h : c = .val (.bool b)) : j.ok .bool c := by rw [hj]; exact ⟨b, h⟩
theorem ob_str (hj : j = std P T) {c : C} (s : ByteArray) (h : c = .val (.string s)) : j.ok .str c := by rw [hj]; exact ⟨s, h⟩
theorem ob_sl (hj : j = std P T) {c : C} (n : Nat) (cs : List C) (h : c = .sl n cs) : j.ok .sl c := by rw [hj]; exact .inr ⟨n, cs, h⟩
theorem ob_ok (hj : j = std P T) {k : K} {c : C} (h : okK k c) : j.ok k c := by rw [hj]; exact h
theorem ite0 {n m : Nat} [Decidable (n = 0)] : (if n = 0 then m else n + m) = n + m := by split <;> omega
theorem pl2 {a b : Nat} [Decidable (b = 0)] [Decidable (a = 0)] : (if b = 0 then a else if a = 0 then b else a + b) = a + b := by split <;> (try split) <;> omega
theorem pl3 {a b : Nat} [Decidable (b = 0)] : (if b = 0 then a else a + b) = a + b := by split <;> omega
theorem sb0 {n k : Nat} [Decidable (k = 0)] : (if k = 0 then n else n - k) = n - k := by split <;> omega
theorem pl0 {n : Nat} [Decidable (n = 0)] : (if n = 0 then 0 else n) = n := by split <;> omega
theorem cmpS_eq (a b : ByteArray) : cmpS .eql a b = decide (a = b) := by
  show (a.toList == b.toList) = _
  rw [Bool.eq_iff_iff, decide_eq_true_eq, beq_iff_eq, ByteArray.toList_eq, ByteArray.toList_eq]
  constructor
  · intro h; exact ByteArray.ext (Array.toList_inj.1 h)
  · intro h; rw [h]
theorem cmpS_neq (a b : ByteArray) : cmpS .neq a b = !decide (a = b) := by rw [← cmpS_eq]; rfl
/-- a contract, as a call asks for it -/
def PCs (P : Program) (T : TT) (f : FuncId) (args : List Arg) (ret : RV) (upd : List Root) : Prop := (std P T).pc f args ret upd
end Go.Proofs.Ytdmdcmhgfgookaa.A
