/- The ghost machine, part 34: from what an argument reads as to the machine's cells. -/
import Derived.Test.YtdmdcmhgfgookaaAm32
import Derived.Test.YtdmdcmhgfgookaaRead
set_option linter.unusedSimpArgs false
set_option linter.unusedVariables false
set_option maxRecDepth 100000
set_option maxHeartbeats 4000000
namespace Go.Proofs.Ytdmdcmhgfgookaa.A
open Go
def RdC {α : Type} (R : Rd α) (f : α → List C) : Prop :=
  ∀ (w : World) (cs : List Value) (x : α), R w cs x → cs.length = (f x).length ∧ ∀ k (h : k < cs.length) (h2 : k < (f x).length), CRep w (fun b => b < w.heap.size) cs[k] (f x)[k]
theorem rdc_one {w : World} {S : Nat → Prop} {v : Value} {c : C} (h : CRep w S v c) : [v].length = [c].length ∧ ∀ k (h : k < [v].length) (h2 : k < [c].length), CRep w S [v][k] [c][k] :=
  ⟨rfl, fun k hk hk2 => by
    have hk' : k < 1 := hk
    obtain rfl : k = 0 := by omega
    exact h⟩
theorem rdc_int : RdC RInt fun n => [vI n] := by rintro w cs n ⟨rfl, _⟩; exact rdc_one (.val rfl)
theorem rdc_bool : RdC RBool fun b => [vB b] := by rintro w cs b rfl; exact rdc_one (.val rfl)
theorem rdc_str : RdC RStr fun s => [vS s] := by rintro w cs s ⟨rfl, _⟩; exact rdc_one (.val rfl)
theorem rdc_u8 : RdC RU8 fun b => [vU (b.toNat : Int)] := by rintro w cs b rfl; exact rdc_one (.val rfl)
theorem rdc_pair {α β : Type} {s1 s2 : Nat} {A : Rd α} {B : Rd β} {f : α → List C} {g : β → List C} (ha : RdC A f) (hb : RdC B g) : RdC (RPair s1 s2 A B) fun x => f x.1 ++ g x.2 := by
  rintro w cs x ⟨c1, c2, rfl, h1, h2, h3, h4⟩
  obtain ⟨l1, k1⟩ := ha w c1 x.1 h3
  obtain ⟨l2, k2⟩ := hb w c2 x.2 h4
  refine ⟨by rw [List.length_append, List.length_append, l1, l2], fun k hk hk2 => ?_⟩
  by_cases hlt : k < c1.length
  · rw [List.getElem_append_left hlt, List.getElem_append_left (by omega)]
    exact k1 k hlt (by omega)
  · have e1 : k < (c1 ++ c2).length := hk
    have e2 : k < (f x.1 ++ g x.2).length := hk2
    simp only [List.length_append] at e1 e2
    rw [List.getElem_append_right (by omega), List.getElem_append_right (by omega)]
    simp only [l1]
    exact k2 _ (by omega) (by omega)
theorem flat_cells {α : Type} {R : Rd α} {f : α → List C} {sz : Nat} (hR : RdC R f) (hsz : ∀ x, (f x).length = sz) {w : World} {b : Nat} :
    ∀ (xs : List α) (off : Nat), (∀ i (h : i < xs.length), ∃ cs : List Value, cs.length = sz ∧ (∀ j, j < sz → w.cell? ⟨b, off + (i * sz + j), none⟩ = cs[j]?) ∧ R w cs xs[i]) →
      ∀ j (h : j < (xs.flatMap f).length), ∃ v, w.cell? ⟨b, off + j, none⟩ = some v ∧ CRep w (fun b => b < w.heap.size) v (xs.flatMap f)[j] := by
  intro xs
  induction xs with
  | nil => intro off _ j h; exact absurd h (by simp)
  | cons x xs ih =>
    intro off hc j hj
    obtain ⟨cs, c1, c2, c3⟩ := hc 0 (by simp)
    obtain ⟨l1, k1⟩ := hR w cs x c3
    have hfl : (x :: xs).flatMap f = f x ++ xs.flatMap f := List.flatMap_cons ..
    have hj2 : j < (f x ++ xs.flatMap f).length := by rw [← hfl]; exact hj
    have hx := hsz x
    by_cases hlt : j < sz
    · have hjc : j < cs.length := by omega
      have h3 := c2 j hlt
      rw [Nat.zero_mul, Nat.zero_add, List.getElem?_eq_getElem hjc] at h3
      refine ⟨cs[j], h3, ?_⟩
      have e1 : ((x :: xs).flatMap f)[j] = (f x)[j]'(by omega) := by
        simp only [hfl]; rw [List.getElem_append_left (by omega)]
      rw [e1]
      exact k1 j hjc (by omega)
    · simp only [List.length_append] at hj2
      obtain ⟨v, v1, v2⟩ := ih (off + sz) (fun i hi => by
        obtain ⟨cs, d1, d2, d3⟩ := hc (i + 1) (by simp; omega)
        refine ⟨cs, d1, fun j hj => ?_, by simpa using d3⟩
        have := d2 j hj
        rw [Nat.add_mul, Nat.one_mul] at this
        rw [← this]; congr 2; omega) (j - sz) (by omega)
      refine ⟨v, ?_, ?_⟩
      · rw [← v1]; congr 2; omega
      · have e1 : ((x :: xs).flatMap f)[j] = (xs.flatMap f)[j - sz]'(by omega) := by
          simp only [hfl]; rw [List.getElem_append_right (by omega)]; simp only [hx]
        rw [e1]; exact v2
theorem crep_rdsl {α : Type} {R : Rd α} {f : α → List C} {sz : Nat} (hR : RdC R f) (hsz : ∀ x, (f x).length = sz) {w : World} {a : Option Addr} {cap : Nat} {xs : List α} (hs : SlAt sz R w a xs) (hle : xs.length ≤ cap) :
    CRep w (fun b => b < w.heap.size) (.slice a xs.length cap) (.sl xs.length (xs.flatMap f)) := by
  by_cases h0 : xs.length = 0
  · have : xs = [] := List.eq_nil_of_length_eq_zero h0
    subst this
    exact .sl0
  · obtain ⟨b, off, rfl, hlt, hc⟩ := hs (by omega)
    have key := flat_cells hR hsz xs off hc
    refine .sl (fun j => (w.cell? ⟨b, off + j, none⟩).getD undef) hlt hle (fun j hj => ?_) (fun j hj => ?_)
    · obtain ⟨v, v1, _⟩ := key j hj
      rw [v1]; rfl
    · obtain ⟨v, v1, v2⟩ := key j hj
      show CRep w _ ((w.cell? ⟨b, off + j, none⟩).getD undef) _
      rw [v1]; exact v2
theorem rdc_sl {α : Type} {R : Rd α} {f : α → List C} {sz by_ : Nat} (hR : RdC R f) (hsz : ∀ x, (f x).length = sz) : RdC (RSl sz by_ R) fun xs => [.sl xs.length (xs.flatMap f)] := by
  rintro w cs xs ⟨a, cap, rfl, hs, hle, _⟩
  exact rdc_one (crep_rdsl hR hsz hs hle)
/-- an argument that is a slice -/
theorem arg_sl {α : Type} {R : Rd α} {f : α → List C} {sz by_ : Nat} (hR : RdC R f) (hsz : ∀ x, (f x).length = sz) {w : World} {a : Option Addr} {len cap : Nat} {xs : List α} (h : (RSl sz by_ R) w [.slice a len cap] xs) :
    ∃ n, xs.length = n ∧ CRep w (fun b => b < w.heap.size) (.slice a len cap) (.sl n (xs.flatMap f)) := by
  obtain ⟨a', cap', h1, hs, hle, _⟩ := h
  cases h1
  exact ⟨_, rfl, crep_rdsl hR hsz hs hle⟩
end Go.Proofs.Ytdmdcmhgfgookaa.A
