/- WsetCats: the walk, as the row's step asks for it. -/
import Derived.Test.YtkkieddebnhpcaaWsCats
import Derived.Test.YtkkieddebnhpcaaAm34
set_option linter.unusedSimpArgs false
set_option linter.unusedVariables false
set_option maxRecDepth 100000
set_option maxHeartbeats 4000000
namespace Go.Proofs.Ytkkieddebnhpcaa
open Go Go.RowKit
theorem strs_arg {w : World} {a : Option Addr} {len cap : Nat} {xs : List ByteArray} (R : (RSl 1 16 RStr) w [.slice a len cap] xs) : A.nS xs < 4611686018427387904 ∧ A.CRep w (fun b => b < w.heap.size) (.slice a len cap) (.sl (A.nS xs) (A.sC xs)) := by
  obtain ⟨n, hn, hc⟩ := A.arg_sl A.rdc_str (fun _ => rfl) R
  have hb : n < 4611686018427387904 := by
    obtain ⟨a', cap', _, _, hle, hcap, _⟩ := R
    omega
  rw [A.sC_flat] at hc
  have e : n = A.nS xs := by rw [A.nS_eq, hn]
  rw [e] at hb hc
  exact ⟨hb, hc⟩
theorem wsetCats_walk (w : World) (a0 : Int) (_ : -9223372036854775808 ≤ a0 ∧ a0 ≤ 9223372036854775807) (a1 : Option Addr) (len1 cap1 : Nat) (x1 : List ByteArray) (R1 : (RSl 1 16 RStr) w [.slice a1 len1 cap1] x1) (a2 : Option Addr) (len2 cap2 : Nat) (x2 : List ByteArray) (R2 : (RSl 1 16 RStr) w [.slice a2 len2 cap2] x2) :
    Calls Try.prog 3 #[.int .i64 a0, .slice a1 len1 cap1, .slice a2 len2 cap2] w fun e w' => e = .returned (.bool true) ∧ Below w.heap.size w w' := by
  obtain ⟨b1, c1⟩ := strs_arg R1
  obtain ⟨b2, c2⟩ := strs_arg R2
  exact A.walk_of_pc (vs := [.int .i64 a0, .slice a1 len1 cap1, .slice a2 len2 cap2]) (A.pc_WsetCats a0 x1 x2 b1 b2) (by simp [A.Arg.asRoot]) (fun b => b < w.heap.size) (fun _ h => h) rfl (fun i h h2 => by
    have h3 : i < 3 := h
    match i, h3 with
    | 0, _ => exact ⟨_, rfl, .val rfl⟩
    | 1, _ => exact ⟨_, rfl, c1⟩
    | 2, _ => exact ⟨_, rfl, c2⟩)
end Go.Proofs.Ytkkieddebnhpcaa
