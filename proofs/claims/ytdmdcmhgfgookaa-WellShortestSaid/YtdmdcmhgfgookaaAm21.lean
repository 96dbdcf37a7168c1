/- The ghost machine, part 21: calls. -/
import Derived.Test.YtdmdcmhgfgookaaAm20
set_option linter.unusedSimpArgs false
set_option linter.unusedVariables false
set_option maxRecDepth 100000
set_option maxHeartbeats 4000000
namespace Go.Proofs.Ytdmdcmhgfgookaa.A
open Go Go.RowKit
variable {P : Program} {T : TT} {w w' w0 : World} {S S0 : Nat → Prop} {F : Fr} {bx : Nat → Nat} {ph : Nat → Nat → Pv} {a : Act} {st st' : St}

theorem nones_getD (l : List Arg) (hl : ∀ x ∈ l, x.asRoot = .none) (t : Nat) : (l.map Arg.asRoot).getD t .none = .none := by
  rw [List.getD_eq_getElem?_getD, List.getElem?_map]
  cases h : l[t]? with
  | none => rfl
  | some x => exact hl x (List.mem_of_getElem? h)
theorem heap_nones {S : Nat → Prop} (l : List Arg) (hl : ∀ x ∈ l, x.asRoot = .none) (hlow : LowG w S) : Heap T w S (l.map Arg.asRoot) bx ph := by
  refine ⟨fun t => by rw [nones_getD l hl]; trivial, fun t κ t' κ' b h => ?_, fun t κ b h => ?_, hlow⟩
  · exact (owns_none _ _ _ (nones_getD l hl t) _ _ h).elim
  · exact (owns_none _ _ _ (nones_getD l hl t) _ _ h).elim

/-- a loose root that a call gave, for the moment -/
theorem addRoot (h : Rel T w0 S0 F st a w S bx ph) (hsp : st.r.getD st.s.length .none = .none) {S1 : Nat → Prop} {row : List RC} {us : List Root} {bx1 : Nat → Nat} {ph1 : Nat → Nat → Pv} (hh : Heap T w S1 (.loose row :: us) bx1 ph1)
    (hrow : ∀ o (ho : o < row.length), RCRep T w S (ph1 0 o) row[o]) (hn : ∀ t κ b, owns (.loose row :: us) bx1 ph1 t κ b → ¬ S b ∧ (∀ t κ, ¬ owns st.r bx ph t κ b) ∧ (w0.heap.size ≤ b ∨ F b)) :
    Rel T w0 S0 F { st with r := st.r.set st.s.length (.loose row) } a w S bx (fun t => if t = st.s.length then ph1 0 else ph t) ∧ (st.r.set st.s.length (.loose row)).getD st.s.length .none = .loose row := by
  have hN : st.s.length < st.r.length := by have := h.rsize.1; omega
  have hg : ∀ v, (st.r.set st.s.length (.loose row)).getD v .none = if v = st.s.length then .loose row else st.r.getD v .none := fun v => by
    rw [getD_set]
    by_cases e1 : v = st.s.length
    · subst e1; simp [hN]
    · rw [if_neg (fun hh => e1 hh.1.symm), if_neg e1]
  have hown : ∀ v κ b, owns (st.r.set st.s.length (.loose row)) bx (fun t => if t = st.s.length then ph1 0 else ph t) v κ b →
      (v = st.s.length ∧ owns (.loose row :: us) bx1 ph1 0 κ b) ∨ (v ≠ st.s.length ∧ owns st.r bx ph v κ b) := fun v κ b hb => by
    by_cases e1 : v = st.s.length
    · subst e1
      cases κ with
      | none =>
        obtain ⟨row', k1, _⟩ := owns_box hb
        rw [hg, if_pos rfl] at k1; cases k1
      | some o =>
        obtain ⟨rc, k1, k2⟩ := owns_cell hb
        rw [hg, if_pos rfl] at k1
        simp only [if_pos] at k2
        exact .inl ⟨rfl, own_blk (r := .loose row :: us) (t := 0) k1 k2⟩
    · refine .inr ⟨e1, ?_⟩
      cases κ with
      | none =>
        obtain ⟨row', k1, rfl⟩ := owns_box hb
        rw [hg, if_neg e1] at k1; exact owns_of_box k1
      | some o =>
        obtain ⟨rc, k1, k2⟩ := owns_cell hb
        rw [hg, if_neg e1] at k1
        simp only [if_neg e1] at k2
        exact own_blk k1 k2
  refine ⟨⟨h.size, ⟨by simp only [List.length_set]; exact h.rsize.1, h.rsize.2⟩, h.defers, ⟨fun v => ?_, fun v κ v2 κ2 b b1 b2 => ?_, fun v κ b b1 => ?_, h.heap.low⟩, fun v κ b b1 => ?_, fun i hi => (h.slot i hi).mono fun v x hx => ?_, h.keep, h.new, h.chg⟩, by rw [hg, if_pos rfl]⟩
  · show RootRep T w S (bx v) _ ((st.r.set st.s.length (.loose row)).getD v .none)
    rw [hg]
    by_cases e1 : v = st.s.length
    · subst e1
      have e0 : (if st.s.length = st.s.length then Root.loose row else st.r.getD st.s.length .none) = .loose row := if_pos rfl
      rw [e0]
      intro o ho
      simp only [if_true]
      exact hrow o ho
    · rw [if_neg e1]
      simp only [if_neg e1]
      exact h.heap.root v
  · rcases hown v κ b b1 with ⟨rfl, c1⟩ | ⟨n1, c1⟩ <;> rcases hown v2 κ2 b b2 with ⟨rfl, c2⟩ | ⟨n2, c2⟩
    · exact ⟨rfl, (hh.inj _ _ _ _ b c1 c2).2⟩
    · exact absurd c2 ((hn _ _ b c1).2.1 _ _)
    · exact absurd c1 ((hn _ _ b c2).2.1 _ _)
    · exact h.heap.inj _ _ _ _ b c1 c2
  · rcases hown v κ b b1 with ⟨rfl, c1⟩ | ⟨n1, c1⟩
    · exact ⟨(hn _ _ b c1).1, (hh.free _ _ b c1).2⟩
    · exact h.heap.free _ _ b c1
  · rcases hown v κ b b1 with ⟨rfl, c1⟩ | ⟨n1, c1⟩
    · exact (hn _ _ b c1).2.2
    · exact h.mine _ _ b c1
  · refine hx.congr (fun t o rc hc _ hv => ?_) (fun t o he row' hv hp => ?_) (fun f caps he t ht row' hv => ?_)
    · have n1 : t ≠ st.s.length := fun e1 => by subst e1; rw [hsp] at hv; simp [Root.row] at hv
      exact ⟨by show ((st.r.set st.s.length (.loose row)).getD t .none).row[o]? = _; rw [hg, if_neg n1]; exact hv, by rw [if_neg n1]⟩
    · have n1 : t ≠ st.s.length := fun e1 => by subst e1; rw [hsp] at hv; cases hv
      exact ⟨row', by show (st.r.set st.s.length (.loose row)).getD t .none = _; rw [hg, if_neg n1]; exact hv, hp, rfl⟩
    · have n1 : t ≠ st.s.length := fun e1 => by subst e1; rw [hsp] at hv; cases hv
      exact ⟨row', by show (st.r.set st.s.length (.loose row)).getD t .none = _; rw [hg, if_neg n1]; exact hv, rfl, rfl⟩

/-- the result's cells, as a slot reads them -/
theorem parts_sound {r : List Root} {d : Nat} {row : List RC} {φ : Nat → Pv} (hcell : ∀ o rc, row[o]? = some rc → XRep T w S r bx ph (φ o) (rcX d o rc)) :
    ∀ (ps : List (Bool × List RC)) (o : Nat) (us : List Value), (∀ k rc, (ps.flatMap (·.2))[k]? = some rc → row[o + k]? = some rc) → PartVals φ o us ps →
      us.length = (partsX d o ps).length ∧ ∀ k (h : k < (partsX d o ps).length) (h2 : k < us.length), PartRep T w S r bx ph us[k] (partsX d o ps)[k] := by
  intro ps
  induction ps with
  | nil =>
    intro o us _ hv
    cases us with
    | nil => exact ⟨rfl, fun k hk => absurd hk (by simp [partsX])⟩
    | cons u us => exact hv.elim
  | cons p ps ih =>
    intro o us hrow hv
    cases us with
    | nil => exact hv.elim
    | cons u us =>
      obtain ⟨h1, h2⟩ := hv
      obtain ⟨b, rcs⟩ := p
      have hrow1 : ∀ k rc, rcs[k]? = some rc → row[o + k]? = some rc := fun k rc hk => hrow k rc (by
        rw [List.flatMap_cons, List.getElem?_append_left (List.getElem?_eq_some_iff.1 hk).1]; exact hk)
      obtain ⟨i1, i2⟩ := ih (o + rcs.length) us (fun k rc hk => by
        have := hrow (rcs.length + k) rc (by
          rw [List.flatMap_cons, List.getElem?_append_right (by simp)]
          simpa using hk)
        rw [Nat.add_assoc]; exact this) h2
      refine ⟨by simp [partsX, i1], fun k hk hk2 => ?_⟩
      cases k with
      | succ k => exact i2 k (by simpa [partsX] using hk) (by simpa using hk2)
      | zero =>
        show PartRep T w S r bx ph u (b, rcs.zipIdx.map fun (rc, i) => rcX d (o + i) rc)
        have hx : ∀ i (hi : i < rcs.length), XRep T w S r bx ph (φ (o + i)) (rcX d (o + i) rcs[i]) := fun i hi => hcell _ _ (hrow1 i _ (List.getElem?_eq_getElem hi))
        unfold PartVal at h1
        unfold PartRep
        dsimp only at h1 ⊢
        cases b with
        | true =>
          simp only [if_true] at h1 ⊢
          obtain ⟨vs, rfl, q1, q2⟩ := h1
          refine ⟨vs, rfl, by simp [q1], fun i hi hi2 => ?_⟩
          have hi' : i < rcs.length := by simpa using hi
          rw [q2 i hi2]
          simpa using hx i hi'
        | false =>
          simp only [Bool.false_eq_true, if_false] at h1 ⊢
          obtain ⟨q1, rfl⟩ := h1
          have h0 := hx 0 (by omega)
          match rcs, q1, h0 with
          | [rc], _, h0 => exact ⟨rcX d o rc, by simp, h0⟩

theorem retV_sound {r : List Root} {d : Nat} {row : List RC} {φ : Nat → Pv} {ret : RV} {v : Value} (hrow : row = ret.parts.flatMap (·.2)) (hcell : ∀ o rc, row[o]? = some rc → XRep T w S r bx ph (φ o) (rcX d o rc))
    (hv : RetRep φ v ret) : VRep T w S r bx ph v (retV d ret) := by
  have hp := fun us h => parts_sound (ps := ret.parts) (o := 0) (us := us) hcell (fun k rc hk => by rw [Nat.zero_add, hrow]; exact hk) h
  unfold RetRep at hv
  unfold retV
  cases ht : ret.tup with
  | true =>
    rw [ht] at hv
    simp only [if_true] at hv ⊢
    obtain ⟨us, rfl, h2⟩ := hv
    obtain ⟨i1, i2⟩ := hp _ h2
    refine ⟨us, rfl, by simpa using i1, fun k hk hk2 => ?_⟩
    have := i2 k hk (by simpa using hk2)
    rw [Array.getElem_toList] at this
    exact this
  | false =>
    rw [ht] at hv
    simp only [Bool.false_eq_true, if_false] at hv ⊢
    obtain ⟨i1, i2⟩ := hp _ hv
    split
    · rename_i b xs hpx
      have := i2 0 (by rw [hpx]; simp) (by simp)
      simp only [hpx, List.getElem_cons_zero] at this
      unfold PartRep at this
      unfold mk
      cases b with
      | true => simp only [if_true] at this; exact this
      | false =>
        simp only [Bool.false_eq_true, if_false] at this ⊢
        obtain ⟨x, rfl, h3⟩ := this
        exact h3
    · trivial
end Go.Proofs.Ytdmdcmhgfgookaa.A
