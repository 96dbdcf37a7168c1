/-
  WordCuts: Cut, Cat and Valid return the specified results.
  No condition: for every input that can be read as data the law returns true and each argument reads as it did.
-/
import Derived.Test.YtojonlkiokejoaaWordCuts
import Derived.Test.YtojonlkiokejoaaRead
import Derived.Test.YtojonlkiokejoaaRows
import Derived.ShutString
import Derived.ChangeOld
import Derived.Below
namespace Go.Proofs.Ytojonlkiokejoaa.wordCuts
open Go.ChangeShapes Go.WideShapes Go.ChangeAt Go.RowKit
set_option linter.unusedVariables false

theorem own : ownKnob Try.prog.godebug = none := by kernel_rfl
theorem laidOut : laidOutB Try.prog = true := by kernel_rfl

theorem weights_of {H : Type} {P : Program} {ts : List TypeId} {ds : List (DataW H)} (h : (DataW.weightsEach P ts ds).all (· ≤ reachBytes) = true) {j : Nat} {t : TypeId} {d : DataW H} (ht : ts[j]? = some t) (hd : ds[j]? = some d) : (d.weights P t).all (· ≤ reachBytes) = true :=
  List.all_eq_true.2 fun n hn => List.all_eq_true.1 h n (DataW.weights_mem_each ht hd n hn)

set_option maxRecDepth 100000 in
theorem lifted (os : Os) (started : os.Started) (H : Type) (enc : TypeId × Value → H) :
    ReturnsInHanded {} Try.checked os 4 .any (Rows.wordCutsSpec.pre6 enc Try.prog Try.f4 Rows.wordCutsRow.domain false) (Rows.wordCutsSpec.post enc Try.prog Try.f4 false true false false) := by
  refine returnsInHanded_of_change_sized (C := Try.checked) own started (by kernel_rfl) Try.func4
    (ChangeSpec.witness6 (enc := enc) (C := Try.checked) false ⟨#[], #[.string ByteArray.empty, .string ByteArray.empty, .string ByteArray.empty, .int .i64 0, .int .i64 0], []⟩ 8 (by kernel_rfl) (by kernel_rfl) (by kernel_rfl) (by kernel_rfl)) ?_
  intro W base args ds gs before hval0 hW _ hsz0 _
  have hsz : (DataW.weightsEach Try.prog (Try.f4.params.toList ++ Rows.wordCutsSpec.plain.varTypes Try.prog) (ds ++ gs)).all (· ≤ reachBytes) = true := hsz0
  have hval : ∀ (j : Nat) t v, Try.f4.params[j]? = some t → args[j]? = some v → Value.okWide Try.prog W .any base t v := hval0
  have hW' := hW
  obtain ⟨p, q, hA0, hV, rfl, _, _⟩ := hW
  have hA : DataW.TrodAll enc Try.prog W 0 (fun _ => true) true Try.f4.params.toList args.toList ds p := hA0
  rw [Try.params4] at hA hval hsz
  obtain ⟨v0, vs0, d0, ds0, p0, q0, hargs, rfl, rfl, h0, r0⟩ := trodAll_cons hA
  obtain ⟨v1, vs1, d1, ds1, p1, q1, rfl, rfl, rfl, h1, r1⟩ := trodAll_cons r0
  obtain ⟨v2, vs2, d2, ds2, p2, q2, rfl, rfl, rfl, h2, r2⟩ := trodAll_cons r1
  obtain ⟨v3, vs3, d3, ds3, p3, q3, rfl, rfl, rfl, h3, r3⟩ := trodAll_cons r2
  obtain ⟨v4, vs4, d4, ds4, p4, q4, rfl, rfl, rfl, h4, r4⟩ := trodAll_cons r3
  obtain ⟨rfl, rfl, rfl⟩ := trodAll_nil r4
  obtain rfl : args = #[v0, v1, v2, v3, v4] := by cases args; simp_all
  obtain ⟨rfl, rfl⟩ := trodVars_none hV
  clear hA0 hval0 hsz0
  have lt0 : ∀ x ∈ p0, x.block < W.heap.size := by obtain ⟨m, hm⟩ := h0; exact DataW.trod_lt m _ _ _ hm
  have lt1 : ∀ x ∈ p1, x.block < W.heap.size := by obtain ⟨m, hm⟩ := h1; exact DataW.trod_lt m _ _ _ hm
  have lt2 : ∀ x ∈ p2, x.block < W.heap.size := by obtain ⟨m, hm⟩ := h2; exact DataW.trod_lt m _ _ _ hm
  have lt3 : ∀ x ∈ p3, x.block < W.heap.size := by obtain ⟨m, hm⟩ := h3; exact DataW.trod_lt m _ _ _ hm
  have lt4 : ∀ x ∈ p4, x.block < W.heap.size := by obtain ⟨m, hm⟩ := h4; exact DataW.trod_lt m _ _ _ hm
  obtain ⟨x0, R0⟩ : ∃ x, (RStr) W v0.cells.toList x := by obtain ⟨fuel, hf⟩ := h0; exact (lk_str Try.underlying9 : Lk enc Try.prog W 9 (RStr)) _ _ _ hf (weights_of hsz (j := 0) (t := 9) rfl rfl)
  obtain ⟨x1, R1⟩ : ∃ x, (RStr) W v1.cells.toList x := by obtain ⟨fuel, hf⟩ := h1; exact (lk_str Try.underlying9 : Lk enc Try.prog W 9 (RStr)) _ _ _ hf (weights_of hsz (j := 1) (t := 9) rfl rfl)
  obtain ⟨x2, R2⟩ : ∃ x, (RStr) W v2.cells.toList x := by obtain ⟨fuel, hf⟩ := h2; exact (lk_str Try.underlying9 : Lk enc Try.prog W 9 (RStr)) _ _ _ hf (weights_of hsz (j := 2) (t := 9) rfl rfl)
  obtain ⟨x3, R3⟩ : ∃ x, (RInt) W v3.cells.toList x := by obtain ⟨fuel, hf⟩ := h3; exact (lk_int Try.underlying3 : Lk enc Try.prog W 3 (RInt)) _ _ _ hf (weights_of hsz (j := 3) (t := 3) rfl rfl)
  obtain ⟨x4, R4⟩ : ∃ x, (RInt) W v4.cells.toList x := by obtain ⟨fuel, hf⟩ := h4; exact (lk_int Try.underlying3 : Lk enc Try.prog W 3 (RInt)) _ _ _ hf (weights_of hsz (j := 4) (t := 3) rfl rfl)
  obtain ⟨a0, rfl⟩ := okWide_string Try.underlying9 (hval 0 9 v0 rfl rfl)
  obtain ⟨e0, b0⟩ := R0
  obtain rfl : a0 = x0 := by simpa [Value.cells] using e0
  obtain ⟨a1, rfl⟩ := okWide_string Try.underlying9 (hval 1 9 v1 rfl rfl)
  obtain ⟨e1, b1⟩ := R1
  obtain rfl : a1 = x1 := by simpa [Value.cells] using e1
  obtain ⟨a2, rfl⟩ := okWide_string Try.underlying9 (hval 2 9 v2 rfl rfl)
  obtain ⟨e2, b2⟩ := R2
  obtain rfl : a2 = x2 := by simpa [Value.cells] using e2
  obtain ⟨a3, rfl, _, _, _⟩ := open_int Try.underlying3 (hval 3 3 v3 rfl rfl) h3
  obtain ⟨e3, b3⟩ := R3
  obtain rfl : a3 = x3 := by simpa [Value.cells] using e3
  obtain ⟨a4, rfl, _, _, _⟩ := open_int Try.underlying3 (hval 4 3 v4 rfl rfl) h4
  obtain ⟨e4, b4⟩ := R4
  obtain rfl : a4 = x4 := by simpa [Value.cells] using e4
  refine (wordCuts_walk W a0 b0 a1 b1 a2 b2 a3 b3 a4 b4).mono fun e W' ⟨he, bel⟩ => ?_
  subst he
  exact ⟨_, rfl, _, _, _, [], _, [], hW', trodAll_mk1 (shut_bool Try.underlying4 _), (trodAll_cons_mk (Below.trod laidOut (by kernel_rfl) (of_decide_eq_true (by kernel_rfl)) h0 bel lt0) (trodAll_cons_mk (Below.trod laidOut (by kernel_rfl) (of_decide_eq_true (by kernel_rfl)) h1 bel lt1) (trodAll_cons_mk (Below.trod laidOut (by kernel_rfl) (of_decide_eq_true (by kernel_rfl)) h2 bel lt2) (trodAll_cons_mk (Below.trod laidOut (by kernel_rfl) (of_decide_eq_true (by kernel_rfl)) h3 bel lt3) (trodAll_cons_mk (Below.trod laidOut (by kernel_rfl) (of_decide_eq_true (by kernel_rfl)) h4 bel lt4) trodAll_mk0))))), rfl, bel.frame _, fun h => by cases h⟩

theorem over : Rows.wordCutsRow.holds Try.pinned (OpenSpec.ofChange Rows.wordCutsSpec) :=
  OpenClaim.holds_of_wide 4 Try.f4 rfl rfl rfl rfl rfl rfl rfl ⟨rfl, rfl, rfl, rfl, rfl⟩ rfl rfl rfl rfl rfl (by kernel_rfl) Try.func4 (by kernel_rfl)
    (of_decide_eq_true (by kernel_rfl)) (by unfold Func.isWrapper; first | (rw [if_pos (by decide +kernel)]; kernel_rfl) | (rw [if_neg (by decide +kernel)]; exact ⟨rfl, rfl⟩))
    (fun os started H enc _ => lifted os started H enc)

end Go.Proofs.Ytojonlkiokejoaa.wordCuts
namespace Go.Proofs.Ytojonlkiokejoaa
theorem wordCuts_holds : Rows.WordCutsSaid := wordCuts.over
#print axioms wordCuts_holds
end Go.Proofs.Ytojonlkiokejoaa
