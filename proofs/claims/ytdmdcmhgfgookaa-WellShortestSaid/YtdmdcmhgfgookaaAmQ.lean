/- The ghost machine: what a map with strings for keys tells; results with roots that came in. -/
import Derived.Test.YtdmdcmhgfgookaaAm32
set_option linter.unusedSimpArgs false
set_option linter.unusedVariables false
set_option maxRecDepth 100000
set_option maxHeartbeats 4000000
namespace Go.Proofs.Ytdmdcmhgfgookaa.A
open Go Go.RowKit
variable {P : Program} {T : TT} {st : St}
theorem keq_str (a : ByteArray) (x : Value) : keq (.string a) x = true ↔ x = .string a := by
  cases x <;> simp [keq, eq_comm]
theorem kidx_some {ks : List Value} {a : ByteArray} {i : Nat} (h : kidx ks (.string a) = some i) : ∃ h : i < ks.length, ks[i] = .string a := by
  unfold kidx at h
  obtain ⟨h1, h2, _⟩ := List.findIdx?_eq_some_iff_getElem.1 h
  exact ⟨h1, (keq_str a _).1 h2⟩
/-- what stands in a map under a string -/
def mgetS (m : GM) (a : ByteArray) (z : C) : C := mgetC m.ks m.vs (.string a) z
theorem mget_set (m : GM) (a b : ByteArray) (v z : C) : mgetS (m.set (.string a) v) b z = if a = b then v else mgetS m b z := by
  unfold mgetS GM.set
  cases hk : kidx m.ks (.string a) with
  | some i =>
    obtain ⟨hi, hki⟩ := kidx_some hk
    have hv : i < m.vs.length := by rw [m.l1]; exact hi
    show mgetC m.ks (m.vs.set i v) (.string b) z = _
    unfold mgetC
    by_cases e : a = b
    · subst e
      rw [hk, if_pos rfl]
      simp [List.getD_eq_getElem?_getD, hv]
    · rw [if_neg e]
      cases hb : kidx m.ks (.string b) with
      | none => rfl
      | some i2 =>
        obtain ⟨hi2, hki2⟩ := kidx_some hb
        have hne : i ≠ i2 := fun e2 => by
          subst e2; rw [hki] at hki2; exact e (by cases hki2; rfl)
        simp [List.getD_eq_getElem?_getD, List.getElem?_set_ne hne]
  | none =>
    show mgetC (m.ks ++ [.string a]) (m.vs ++ [v]) (.string b) z = _
    unfold mgetC kidx
    rw [List.findIdx?_append]
    by_cases e : a = b
    · subst e
      rw [if_pos rfl]
      have h1 : m.ks.findIdx? (keq (.string a)) = none := hk
      rw [h1, List.findIdx?_singleton, if_pos (by simp [keq])]
      simp [← m.l1, List.getD_eq_getElem?_getD]
    · rw [if_neg e, List.findIdx?_singleton, if_neg (by simp [keq]; exact fun h => e h.symm)]
      cases hb : kidx m.ks (.string b) with
      | none =>
        have h1 : m.ks.findIdx? (keq (.string b)) = none := hb
        rw [h1]; rfl
      | some i2 =>
        have h1 : m.ks.findIdx? (keq (.string b)) = some i2 := hb
        obtain ⟨hi2, _⟩ := kidx_some hb
        have hv : i2 < m.vs.length := by rw [m.l1]; exact hi2
        rw [h1]
        simp [List.getD_eq_getElem?_getD, List.getElem?_append_left hv]
theorem mget_new (a : ByteArray) (z : C) : mgetS GM.new a z = z := rfl
/-- results, and the roots that came in -/
theorem ret_oku {j : J} (hj : j = std P T) {fn : Func} {ret : RV} {vs : List V} {row : List RC} {obl : List Prop} {upd outs : List Root} {N : Nat} (h : retOf T j fn.results.toList st = some (vs, row, obl)) (hu : outsOf T j fn.results.toList st = outs) (hn : st.s.length = N)
    (ho : ∀ p ∈ obl, p) (he : ret = ⟨decide (fn.results.size ≠ 1), splitRow vs row⟩) (hl : ∀ (k : Nat) (R : Root), upd[k]? = some R → LeRoot (outs.getD k .none) R) : RetOk P T fn st ret upd N := by
  rw [hj] at h hu
  exact ⟨⟨vs, row, obl, row, h, ho, LeRow.refl _, he⟩, .inr ⟨hn, by rw [hu]; exact hl⟩⟩
theorem upd_nil {outs : List Root} (k : Nat) : ∀ (i : Nat) (R : Root), ([] : List Root)[i]? = some R → LeRoot (outs.getD (k + i) .none) R := fun i R h => by simp at h
theorem upd_none {outs : List Root} {rest : List Root} {k : Nat} (h : ∀ (i : Nat) (R : Root), rest[i]? = some R → LeRoot (outs.getD (k + 1 + i) .none) R) : ∀ (i : Nat) (R : Root), (Root.none :: rest)[i]? = some R → LeRoot (outs.getD (k + i) .none) R := fun i R hi => by
  cases i with
  | zero => simp at hi; subst hi; exact .none _
  | succ i => rw [show k + (i + 1) = k + 1 + i by omega]; exact h i R (by simpa using hi)
theorem upd_box {outs : List Root} {rest : List Root} {row : List RC} {k : Nat} (h0 : outs.getD k .none = .box row) (h : ∀ (i : Nat) (R : Root), rest[i]? = some R → LeRoot (outs.getD (k + 1 + i) .none) R) : ∀ (i : Nat) (R : Root), (Root.box row :: rest)[i]? = some R → LeRoot (outs.getD (k + i) .none) R := fun i R hi => by
  cases i with
  | zero => simp at hi; subst hi; rw [Nat.add_zero, h0]; exact .box (LeRow.refl _)
  | succ i => rw [show k + (i + 1) = k + 1 + i by omega]; exact h i R (by simpa using hi)
theorem upd_le {outs : List Root} {rest : List Root} {row0 row : List RC} {k : Nat} (h0 : outs.getD k .none = .box row0) (hl : LeRow row0 row) (h : ∀ (i : Nat) (R : Root), rest[i]? = some R → LeRoot (outs.getD (k + 1 + i) .none) R) : ∀ (i : Nat) (R : Root), (Root.box row :: rest)[i]? = some R → LeRoot (outs.getD (k + i) .none) R := fun i R hi => by
  cases i with
  | zero => simp at hi; subst hi; rw [Nat.add_zero, h0]; exact .box hl
  | succ i => rw [show k + (i + 1) = k + 1 + i by omega]; exact h i R (by simpa using hi)
/-- a box that is new -/
theorem new_ok {fn : Func} {row row' : List RC} {s t : Nat} (h1 : fn.results.toList = [.tmp s]) (h2 : st.s.getD s .undef = .one (.ptr t 0)) (h3 : st.r.getD t .none = .box row') (h4 : row' ≠ []) (h5 : LeRow row' row) : NewOk fn st row := ⟨s, t, row', h1, h2, h3, h4, h5⟩
/-- the roots that came in are these -/
theorem upd_of {outs upd : List Root} (h : ∀ (i : Nat) (R : Root), upd[i]? = some R → LeRoot (outs.getD (0 + i) .none) R) : ∀ (k : Nat) (R : Root), upd[k]? = some R → LeRoot (outs.getD k .none) R := fun k R hk => by have := h k R hk; rwa [Nat.zero_add] at this
end Go.Proofs.Ytdmdcmhgfgookaa.A
