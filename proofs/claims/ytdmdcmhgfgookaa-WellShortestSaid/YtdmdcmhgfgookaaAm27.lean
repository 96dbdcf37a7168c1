/- The ghost machine, part 27: the moves of a proof. -/
import Derived.Test.YtdmdcmhgfgookaaAm26
set_option linter.unusedSimpArgs false
set_option linter.unusedVariables false
set_option maxRecDepth 100000
set_option maxHeartbeats 4000000
namespace Go.Proofs.Ytdmdcmhgfgookaa.A
open Go Go.RowKit
variable {P : Program} {T : TT} {st st' : St} {Q : Exit → St → Prop}

/-- a region and what follows -/
theorem aw_run (hT : TOk P T) (say : Say) {id : Nat} {ops : Array Oper} {y : Code}
    (h : ∀ j : J, ∃ st' obl, runs T j say ops.toList st ops.toList 0 = some (st', obl) ∧ (j = std P T → (∀ p ∈ obl, p) ∧ Aw P T y Q st')) : Aw P T (.seq (.region id ops false) y) Q st := by
  obtain ⟨st', obl, h1, h2⟩ := h (std P T)
  obtain ⟨h3, h4⟩ := h2 rfl
  exact aw_seq fun K hK => aw_region hT say h1 h3 (hK _ h4)
/-- a region, the last of its code -/
theorem aw_run1 (hT : TOk P T) (say : Say) {id : Nat} {ops : Array Oper}
    (h : ∀ j : J, ∃ st' obl, runs T j say ops.toList st ops.toList 0 = some (st', obl) ∧ (j = std P T → (∀ p ∈ obl, p) ∧ Q .normal st')) : Aw P T (.region id ops false) Q st := by
  obtain ⟨st', obl, h1, h2⟩ := h (std P T)
  obtain ⟨h3, h4⟩ := h2 rfl
  exact aw_region hT say h1 h3 h4
/-- a sequence: the first part, and what follows under the name K -/
theorem aw_sq {x y : Code} (h : ∀ K : St → Prop, (∀ st, Aw P T y Q st → K st) → Aw P T x (Th K Q) st) : Aw P T (.seq x y) Q st := aw_seq h
/-- a test -/
theorem aw_if {c : Operand} {x y : Code} (b : Bool) (hc : ev st.s c = .one (.c (.val (.bool b)))) (ht : b = true → Aw P T x Q st) (hf : b = false → Aw P T y Q st) : Aw P T (.cond c x y) Q st := aw_cond hc ht hf
/-- a loop: the live slots, the boxes that stay, what holds at each head -/
theorem aw_lp {c : Code} (ks : List (Nat × KS)) (bs : List Nat) (I : Nat → St → Prop)
    (h0 : ∀ j : J, ∃ st1, canon T j ks bs st = some st1 ∧ (j = std P T → ∃ m, I m st1))
    (round : ∀ m st, I m st → Aw P T c (Th (fun st' => ∀ j : J, ∃ st'', canon T j ks bs st' = some st'' ∧ (j = std P T → ∃ m', m' < m ∧ I m' st'')) Q) st) : Aw P T (.loop c) Q st := by
  obtain ⟨st1, h1, h2⟩ := h0 (std P T)
  obtain ⟨m, hm⟩ := h2 rfl
  refine aw_loop I (canon_le h1) hm fun m st hI => (round m st hI).mono fun e st' hq => ?_
  cases e <;> first | exact hq | (
    obtain ⟨st'', h3, h4⟩ := hq (std P T)
    obtain ⟨m', h5, h6⟩ := h4 rfl
    exact ⟨st'', m', canon_le h3, h5, h6⟩)
theorem forget (ks : List (Nat × KS)) (bs : List Nat) {c : Code} (h : ∀ j : J, ∃ st1, canon T j ks bs st = some st1 ∧ (j = std P T → Aw P T c Q st1)) : Aw P T c Q st := by
  obtain ⟨st1, h1, h2⟩ := h (std P T)
  exact aw_le (canon_le h1) (h2 rfl)
theorem ret_ok {fn : Func} {ret : RV} (h : ∀ j : J, ∃ vs row obl, retOf T j fn.results.toList st = some (vs, row, obl) ∧ (j = std P T → (∀ p ∈ obl, p) ∧ ∃ row', LeRow row row' ∧ ret = ⟨decide (fn.results.size ≠ 1), splitRow vs row'⟩)) {N : Nat} : RetOk P T fn st ret [] N := by
  obtain ⟨vs, row, obl, h1, h2⟩ := h (std P T)
  obtain ⟨h3, row', h4, h5⟩ := h2 rfl
  exact ⟨⟨vs, row, obl, row', h1, h3, h4, h5⟩, .inl rfl⟩
/-- two results or more -/
def ret1 (c : RC) : RV := ⟨false, [(false, [c])]⟩
def rets (l : List (Bool × List RC)) : RV := ⟨true, l⟩
abbrev vI (n : Int) : C := .val (.int .i64 n)
abbrev vU (n : Int) : C := .val (.int .u8 n)
abbrev vB (b : Bool) : C := .val (.bool b)
abbrev vS (s : ByteArray) : C := .val (.string s)

theorem obl0 : ∀ p ∈ ([] : List Prop), p := fun _ h => absurd h (by simp)
theorem obl1 {p : Prop} {l : List Prop} (h : p) (k : ∀ q ∈ l, q) : ∀ q ∈ p :: l, q := fun q hq => by
  rcases List.mem_cons.1 hq with rfl | hq
  · exact h
  · exact k q hq
theorem enters {f : FuncId} {fn : Func} (hf : P.funcs[f]? = some fn) (h1 : (fn.name == "runtime.NumGoroutine") = false) (h2 : fn.body.isNone = false) : Enters P f := by
  intro args w
  have e1 : ¬ fn.name = "runtime.NumGoroutine" := by simpa using h1
  have e2 : ¬ fn.body = none := fun h => by rw [h] at h2; cases h2
  simp [callFunc, hf, e1, e2, program, Sem.run]
end Go.Proofs.Ytdmdcmhgfgookaa.A
