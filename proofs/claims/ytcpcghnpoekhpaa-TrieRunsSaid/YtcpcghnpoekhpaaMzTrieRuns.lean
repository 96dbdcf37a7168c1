/-
  TrieRuns: Valid, Step and Run return the specified values for any machine.
  No condition: for every input that can be read as data the law returns true and each argument reads as it did.
-/
import Derived.Test.YtcpcghnpoekhpaaMzTrieRuns1
import Derived.Test.YtcpcghnpoekhpaaRows
import Derived.ShutString
import Derived.ChangeOld
import Derived.Below
set_option linter.unusedSimpArgs false
set_option linter.unusedVariables false
set_option maxRecDepth 100000
set_option maxHeartbeats 4000000
namespace Go.Proofs.Ytcpcghnpoekhpaa.trieRuns
open Go.ChangeShapes Go.WideShapes Go.ChangeAt Go.RowKit
set_option linter.unusedVariables false

theorem own : ownKnob Try.prog.godebug = none := by kernel_rfl
theorem laidOut : laidOutB Try.prog = true := by kernel_rfl

theorem weights_of {H : Type} {P : Program} {ts : List TypeId} {ds : List (DataW H)} (h : (DataW.weightsEach P ts ds).all (· ≤ reachBytes) = true) {j : Nat} {t : TypeId} {d : DataW H} (ht : ts[j]? = some t) (hd : ds[j]? = some d) : (d.weights P t).all (· ≤ reachBytes) = true :=
  List.all_eq_true.2 fun n hn => List.all_eq_true.1 h n (DataW.weights_mem_each ht hd n hn)

set_option maxRecDepth 100000 in
theorem lifted (os : Os) (started : os.Started) (H : Type) (enc : TypeId × Value → H) :
    ReturnsInHanded {} Try.checked os 5 .any (Rows.trieRunsSpec.pre6 enc Try.prog Try.f5 Rows.trieRunsRow.domain false) (Rows.trieRunsSpec.post enc Try.prog Try.f5 false true false false) := by
  refine returnsInHanded_of_change_sized (C := Try.checked) own started (by kernel_rfl) Try.func5
    (ChangeSpec.witness6 (enc := enc) (C := Try.checked) false ⟨#[], #[.slice none 0 0, .int .i64 0, .int .i64 0, .int .i64 0, .string ByteArray.empty], []⟩ 8 (by kernel_rfl) (by kernel_rfl) (by kernel_rfl) (by kernel_rfl)) ?_
  intro W base args ds gs before hval0 hW _ hsz0 _
  have hsz : (DataW.weightsEach Try.prog (Try.f5.params.toList ++ Rows.trieRunsSpec.plain.varTypes Try.prog) (ds ++ gs)).all (· ≤ reachBytes) = true := hsz0
  have hval : ∀ (j : Nat) t v, Try.f5.params[j]? = some t → args[j]? = some v → Value.okWide Try.prog W .any base t v := hval0
  have hW' := hW
  obtain ⟨p, q, hA0, hV, rfl, _, _⟩ := hW
  have hA : DataW.TrodAll enc Try.prog W 0 (fun _ => true) true Try.f5.params.toList args.toList ds p := hA0
  rw [Try.params5] at hA hval hsz
  obtain ⟨v0, vs0, d0, ds0, p0, q0, hargs, rfl, rfl, h0, r0⟩ := trodAll_cons hA
  obtain ⟨v1, vs1, d1, ds1, p1, q1, rfl, rfl, rfl, h1, r1⟩ := trodAll_cons r0
  obtain ⟨v2, vs2, d2, ds2, p2, q2, rfl, rfl, rfl, h2, r2⟩ := trodAll_cons r1
  obtain ⟨v3, vs3, d3, ds3, p3, q3, rfl, rfl, rfl, h3, r3⟩ := trodAll_cons r2
  obtain ⟨v4, vs4, d4, ds4, p4, q4, rfl, rfl, rfl, h4, r4⟩ := trodAll_cons r3
  obtain ⟨rfl, rfl, rfl⟩ := trodAll_nil r4
  obtain rfl : args = #[v0, v1, v2, v3, v4] := by cases args; simp_all
  obtain ⟨rfl, rfl⟩ := trodVars_none hV
  clear hA0 hval0 hsz0
  have lt0 : ∀ x ∈ p0, x.block < W.heap.size := by obtain ⟨m, hm⟩ := h0; exact DataW.trod_lt m _ _ _ hm
  have lt1 : ∀ x ∈ p1, x.block < W.heap.size := by obtain ⟨m, hm⟩ := h1; exact DataW.trod_lt m _ _ _ hm
  have lt2 : ∀ x ∈ p2, x.block < W.heap.size := by obtain ⟨m, hm⟩ := h2; exact DataW.trod_lt m _ _ _ hm
  have lt3 : ∀ x ∈ p3, x.block < W.heap.size := by obtain ⟨m, hm⟩ := h3; exact DataW.trod_lt m _ _ _ hm
  have lt4 : ∀ x ∈ p4, x.block < W.heap.size := by obtain ⟨m, hm⟩ := h4; exact DataW.trod_lt m _ _ _ hm
  obtain ⟨x0, R0⟩ : ∃ x, (A.RMac) W v0.cells.toList x := by obtain ⟨fuel, hf⟩ := h0; exact (lk_sl Try.underlying25 (by kernel_rfl) (by omega) (by kernel_rfl) (lk_rec2 Try.underlying36 (by kernel_rfl) (lk_int Try.underlying3) (lk_sl Try.underlying34 (by kernel_rfl) (by omega) (by kernel_rfl) (lk_rec2 Try.underlying39 (by kernel_rfl) (lk_int Try.underlying3) (lk_int Try.underlying3)))) : Lk enc Try.prog W 25 (A.RMac)) _ _ _ hf (weights_of hsz (j := 0) (t := 25) rfl rfl)
  obtain ⟨x1, R1⟩ : ∃ x, (RInt) W v1.cells.toList x := by obtain ⟨fuel, hf⟩ := h1; exact (lk_int Try.underlying3 : Lk enc Try.prog W 3 (RInt)) _ _ _ hf (weights_of hsz (j := 1) (t := 3) rfl rfl)
  obtain ⟨x2, R2⟩ : ∃ x, (RInt) W v2.cells.toList x := by obtain ⟨fuel, hf⟩ := h2; exact (lk_int Try.underlying3 : Lk enc Try.prog W 3 (RInt)) _ _ _ hf (weights_of hsz (j := 2) (t := 3) rfl rfl)
  obtain ⟨x3, R3⟩ : ∃ x, (RInt) W v3.cells.toList x := by obtain ⟨fuel, hf⟩ := h3; exact (lk_int Try.underlying3 : Lk enc Try.prog W 3 (RInt)) _ _ _ hf (weights_of hsz (j := 3) (t := 3) rfl rfl)
  obtain ⟨x4, R4⟩ : ∃ x, (RStr) W v4.cells.toList x := by obtain ⟨fuel, hf⟩ := h4; exact (lk_str Try.underlying9 : Lk enc Try.prog W 9 (RStr)) _ _ _ hf (weights_of hsz (j := 4) (t := 9) rfl rfl)
  obtain ⟨a0, len0, cap0, rfl⟩ := okWide_slice Try.underlying25 (hval 0 25 v0 rfl rfl)
  obtain ⟨a1, rfl, _, _, _⟩ := open_int Try.underlying3 (hval 1 3 v1 rfl rfl) h1
  obtain ⟨e1, b1⟩ := R1
  obtain rfl : a1 = x1 := by simpa [Value.cells] using e1
  obtain ⟨a2, rfl, _, _, _⟩ := open_int Try.underlying3 (hval 2 3 v2 rfl rfl) h2
  obtain ⟨e2, b2⟩ := R2
  obtain rfl : a2 = x2 := by simpa [Value.cells] using e2
  obtain ⟨a3, rfl, _, _, _⟩ := open_int Try.underlying3 (hval 3 3 v3 rfl rfl) h3
  obtain ⟨e3, b3⟩ := R3
  obtain rfl : a3 = x3 := by simpa [Value.cells] using e3
  obtain ⟨a4, rfl⟩ := okWide_string Try.underlying9 (hval 4 9 v4 rfl rfl)
  obtain ⟨e4, b4⟩ := R4
  obtain rfl : a4 = x4 := by simpa [Value.cells] using e4
  refine (trieRuns_walk W a0 len0 cap0 x0 R0 a1 b1 a2 b2 a3 b3 a4 b4).mono fun e W' ⟨he, bel⟩ => ?_
  subst he
  exact ⟨_, rfl, _, _, _, [], _, [], hW', trodAll_mk1 (shut_bool Try.underlying4 _), (trodAll_cons_mk (Below.trod laidOut (by kernel_rfl) (of_decide_eq_true (by kernel_rfl)) h0 bel lt0) (trodAll_cons_mk (Below.trod laidOut (by kernel_rfl) (of_decide_eq_true (by kernel_rfl)) h1 bel lt1) (trodAll_cons_mk (Below.trod laidOut (by kernel_rfl) (of_decide_eq_true (by kernel_rfl)) h2 bel lt2) (trodAll_cons_mk (Below.trod laidOut (by kernel_rfl) (of_decide_eq_true (by kernel_rfl)) h3 bel lt3) (trodAll_cons_mk (Below.trod laidOut (by kernel_rfl) (of_decide_eq_true (by kernel_rfl)) h4 bel lt4) trodAll_mk0))))), rfl, bel.frame _, fun h => by cases h⟩

theorem over : Rows.trieRunsRow.holds Try.pinned (OpenSpec.ofChange Rows.trieRunsSpec) :=
  OpenClaim.holds_of_wide 5 Try.f5 rfl rfl rfl rfl rfl rfl rfl ⟨rfl, rfl, rfl, rfl, rfl⟩ rfl rfl rfl rfl rfl (by kernel_rfl) Try.func5 (by kernel_rfl)
    (of_decide_eq_true (by kernel_rfl)) (by unfold Func.isWrapper; first | (rw [if_pos (by decide +kernel)]; kernel_rfl) | (rw [if_neg (by decide +kernel)]; exact ⟨rfl, rfl⟩))
    (fun os started H enc _ => lifted os started H enc)

end Go.Proofs.Ytcpcghnpoekhpaa.trieRuns
namespace Go.Proofs.Ytcpcghnpoekhpaa
theorem trieRuns_holds : Rows.TrieRunsSaid := trieRuns.over
#print axioms trieRuns_holds
end Go.Proofs.Ytcpcghnpoekhpaa
