/- The ghost machine, part 13: operations that make memory: the world turns. -/
import Derived.Test.YtdmdcmhgfgookaaAm12
set_option linter.unusedSimpArgs false
set_option linter.unusedVariables false
set_option maxRecDepth 100000
set_option maxHeartbeats 4000000
namespace Go.Proofs.Ytdmdcmhgfgookaa.A
open Go Go.RowKit
variable {P : Program} {T : TT} {w w' w0 : World} {S S0 : Nat → Prop} {F : Fr} {bx : Nat → Nat} {ph : Nat → Nat → Pv} {a : Act} {st st' : St}

/-- the world turns at blocks that the machine does not hold -/
theorem Rel.world (h : Rel T w0 S0 F st a w S bx ph) {W : Nat → Prop} (hc : Chg W w w') (hW : ∀ b, b < w.heap.size → W b → ¬ S b ∧ (∀ t κ, ¬ owns st.r bx ph t κ b) ∧ (w0.heap.size ≤ b ∨ F b)) : Rel T w0 S0 F st a w' S bx ph := by
  have hS : ∀ b, S b → w'.heap[b]? = w.heap[b]? := fun b hb => hc.block b (h.heap.low.1 b hb) fun hw => (hW b (h.heap.low.1 b hb) hw).1 hb
  have hO : ∀ t κ b, owns st.r bx ph t κ b → w'.heap[b]? = w.heap[b]? := fun t κ b hb => by
    have h1 := (h.heap.free t κ b hb).2
    exact hc.block b h1 fun hw => (hW b h1 hw).2.1 t κ hb
  refine ⟨h.size, h.rsize, h.defers, ?_, h.mine, fun i hi => (h.slot i hi).mono fun v x hx => hx.frame hS fun _ h => h, h.keep, h.new, ?_⟩
  · exact h.heap.frame hS (fun _ h => h) hO hc.size (fun t κ b hb => (h.heap.free t κ b hb).1) (fun b hb => Nat.lt_of_lt_of_le (h.heap.low.1 b hb) hc.size)
  · refine ⟨hc.os.trans h.chg.os, hc.tape.trans h.chg.tape, hc.output.trans h.chg.output, Nat.le_trans h.chg.size hc.size, fun b hb hF => ?_⟩
    have hlt : b < w.heap.size := Nat.lt_of_lt_of_le hb h.chg.size
    rw [hc.block b hlt fun hw => by rcases (hW b hlt hw).2.2 with h1 | h1 <;> first | omega | exact hF h1]
    exact h.chg.block b hb hF

theorem Rel.put (h : Rel T w0 S0 F st a w S bx ph) (d : Nat) {z : Value} {V : V} (hV : VRep T w S st.r bx ph z V) : Rel T w0 S0 F (put st (some d) V) (a.put (some d) z) w S bx ph := by
  refine ⟨by simp [A.put, Act.put, h.size], ⟨by simp only [A.put, List.length_set]; exact h.rsize.1, fun t ht => h.rsize.2 t (by simpa [A.put] using ht)⟩, h.defers, h.heap, h.mine, fun i hi => ?_, h.keep, h.new, h.chg⟩
  have hi' : i < st.s.length := by simpa [A.put] using hi
  have h1 := h.slot i hi'
  show VRep T w S st.r bx ph ((a.tmps.setIfInBounds d z).getD i undef) ((st.s.set d V).getD i .undef)
  rw [getD_set]
  have h2 : (a.tmps.setIfInBounds d z).getD i undef = if d = i then z else a.tmps.getD i undef := by
    have hs : i < a.tmps.size := by rw [h.size]; exact hi'
    rw [Array.getD_eq_getD_getElem?, Array.getElem?_setIfInBounds, Array.getD_eq_getD_getElem?]
    by_cases e : d = i
    · subst e; simp [hs]
    · simp [e]
  rw [h2]
  by_cases e : d = i
  · subst e; rw [if_pos rfl, if_pos ⟨rfl, hi'⟩]; exact hV
  · rw [if_neg e, if_neg (fun hh => e hh.1)]; exact h1

theorem undef_put (h : Rel T w0 S0 F st a w S bx ph) (d : Option Nat) (z : Value) : Rel T w0 S0 F (put st d .undef) (a.put d z) w S bx ph := by
  cases d with
  | none => exact h
  | some d => exact h.put d trivial

theorem nop_put (h : Rel T w0 S0 F st a w S bx ph) (d : Option Nat) : Rel T w0 S0 F (put st d .nop) (a.put d undef) w S bx ph := by
  cases d with
  | none => exact h
  | some d => exact h.put d rfl

/-- behind what was carried out: the root of the moment is named, the slot takes the value -/
theorem fin_sound (h : Rel T w0 S0 F st a w S bx ph) {d : Option Nat} (hd : ∀ k, d = some k → k < st.s.length) {z : Value} {vf : Nat → V}
    (hV : ∀ k bx' ph', d = some k → (∀ o, ph' k o = ph st.s.length o) → bx' k = bx st.s.length → (name st k).r.getD k .none = st.r.getD st.s.length .none → Heap T w S (name st k).r bx' ph' → VRep T w S (name st k).r bx' ph' z (vf k)) :
    Rels T w0 S0 F (fin st d vf) (a.put d z) w := by
  cases d with
  | some d =>
    have hd' := hd d rfl
    obtain ⟨h1, h2, h3⟩ := name_rel h hd'
    have := h1.put d (hV d _ _ rfl (fun o => by simp) (by simp) h3 h1.heap)
    refine ⟨S, _, _, this, ?_⟩
    show (name st d).r.getD ((name st d).s.set d (vf d)).length .none = .none
    rw [List.length_set, show (name st d).s.length = st.s.length by simp [name, kill]]
    exact h2
  | none =>
    have hN : st.s.length < st.r.length := by have := h.rsize.1; omega
    have hg : ∀ u, (st.r.set st.s.length .none).getD u .none = if u = st.s.length then .none else st.r.getD u .none := fun u => by
      rw [getD_set]
      by_cases e : u = st.s.length
      · subst e; simp [hN]
      · rw [if_neg (fun hh => e hh.1.symm), if_neg e]
    have hown : ∀ t κ b, owns (st.r.set st.s.length .none) bx ph t κ b → t ≠ st.s.length ∧ owns st.r bx ph t κ b := fun t κ b hb => by
      by_cases e : t = st.s.length
      · subst e; exact (owns_none _ _ _ (by rw [hg, if_pos rfl]) _ _ hb).elim
      · refine ⟨e, ?_⟩
        unfold owns at hb ⊢
        rw [hg, if_neg e] at hb; exact hb
    refine ⟨S, bx, ph, ?_, ?_⟩
    · refine h.ghost (fun x => if ofRoot st.s.length x = true then .undef else x) rfl (by simp [fin]) ⟨fun u => ?_, fun t κ t' κ' b h1 h2 => h.heap.inj _ _ _ _ b (hown t κ b h1).2 (hown t' κ' b h2).2, fun t κ b h1 => h.heap.free _ _ b (hown t κ b h1).2, h.heap.low⟩
        (fun t κ b h1 => ⟨t, κ, (hown t κ b h1).2⟩) (fun v x hx => ?_) (fun _ h => h) (fun _ h => .inl h)
      · show RootRep T w S (bx u) (ph u) ((st.r.set st.s.length .none).getD u .none)
        rw [hg]; split
        · trivial
        · exact h.heap.root u
      · split
        · trivial
        · rename_i hk
          refine hx.congr (fun t o rc hc _ h1 => ?_) (fun t o he row h1 h2 => ?_) (fun f caps he t ht row h1 => ?_)
          · have n2 : t ≠ st.s.length := fun e => hk (by
              subst e
              rcases ofCell_cases hc with rfl | ⟨lo, hi, rfl⟩ | ⟨k, rfl⟩ | rfl | ⟨p, rfl⟩ | ⟨p, k, off, rfl⟩ <;> simp [ofRoot])
            refine ⟨?_, rfl⟩
            show ((st.r.set st.s.length .none).getD t .none).row[o]? = _
            rw [hg, if_neg n2]; exact h1
          · subst he
            have n2 : t ≠ st.s.length := fun e => hk (by subst e; simp [ofRoot])
            refine ⟨row, ?_, h2, rfl⟩
            show (st.r.set st.s.length .none).getD t .none = _
            rw [hg, if_neg n2]; exact h1
          · have n2 : t ≠ st.s.length := fun e => hk (by subst e; exact ofRoot_caps he ht)
            refine ⟨row, ?_, rfl, rfl⟩
            show (st.r.set st.s.length .none).getD t .none = _
            rw [hg, if_neg n2]; exact h1
    · show (st.r.set st.s.length .none).getD (kill _ st.s).length .none = .none
      rw [show (kill (ofRoot st.s.length) st.s).length = st.s.length by simp [kill], hg, if_pos rfl]

/-- the root of the moment takes an owning cell -/
theorem pushOwn (h : Rel T w0 S0 F st a w S bx ph) (hN0 : st.r.getD st.s.length .none = .none) {rc : RC} {z : Pv} (hrc : RCRep T w S z rc)
    (hfree : ∀ b, rc.blk z b → ¬ S b ∧ b < w.heap.size ∧ (∀ t κ, ¬ owns st.r bx ph t κ b) ∧ (w0.heap.size ≤ b ∨ F b)) :
    Rel T w0 S0 F { st with r := pushR st.r st.s.length rc } a w S bx (phPush ph st.s.length 0 z) ∧ (pushR st.r st.s.length rc).getD st.s.length .none = .loose [rc] := by
  have hN : st.s.length < st.r.length := by have := h.rsize.1; omega
  have hb : ∀ row, st.r.getD st.s.length .none ≠ .box row := by rw [hN0]; exact fun _ h => by cases h
  have hl : (st.r.getD st.s.length .none).row.length = 0 := by rw [hN0]; rfl
  have hh := Heap.push h.heap hN hb hrc (fun b hb' => ⟨(hfree b hb').1, (hfree b hb').2.1, (hfree b hb').2.2.1⟩)
  rw [hl] at hh
  refine ⟨⟨h.size, ⟨by rw [length_push]; exact h.rsize.1, h.rsize.2⟩, h.defers, hh, fun t κ b hb' => ?_, fun i hi => (h.slot i hi).mono fun v x hx => ?_, h.keep, h.new, h.chg⟩, ?_⟩
  · have := owns_push (ph := ph) (v := z) (rc := rc) (bx := bx) hN hb (u := t) (κ := κ) (b := b) (by rw [hl]; exact hb')
    rcases this with ⟨_, _, hv⟩ | ⟨h1, _⟩
    · exact (hfree b hv).2.2.2
    · exact h.mine t κ b h1
  · have := XRep.push (rc := rc) (v := z) hN hb hx
    rw [hl] at this; exact this
  · rw [getD_push hN, if_pos rfl, hN0]; rfl

/-- a loose root of the moment becomes a box of its own new block -/
theorem toBox_sound (h : Rel T w0 S0 F st a w S bx ph) {row : List RC} (hrow : (st.r.getD st.s.length .none).row = row) (hb : ∀ r, st.r.getD st.s.length .none ≠ .box r) {cs : Array Value} {e : TypeId}
    (hcs : cs.size = row.length) (hv : ∀ o, o < row.length → cs[o]? = some (ph st.s.length o).v) (hme : row.any RC.isMe = false) :
    Rel T w0 S0 F (toBox st) a (w.alloc (.cells cs e)) S (fun t => if t = st.s.length then w.heap.size else bx t) ph ∧ (toBox st).r.getD st.s.length .none = .box row := by
  have hN : st.s.length < st.r.length := by have := h.rsize.1; omega
  have hg : ∀ u, (toBox st).r.getD u .none = if u = st.s.length then .box row else st.r.getD u .none := fun u => by
    simp only [toBox, rootOf]
    rw [getD_set, hrow]
    by_cases e1 : u = st.s.length
    · subst e1; simp [hN]
    · rw [if_neg (fun hh => e1 hh.1.symm), if_neg e1]
  have hown : ∀ t κ b, owns (toBox st).r (fun t => if t = st.s.length then w.heap.size else bx t) ph t κ b → (t = st.s.length ∧ κ = none ∧ b = w.heap.size) ∨ owns st.r bx ph t κ b := fun t κ b hb' => by
    by_cases e1 : t = st.s.length
    · subst e1
      cases κ with
      | none =>
        obtain ⟨_, _, h2⟩ := owns_box hb'
        exact .inl ⟨rfl, rfl, by simpa using h2⟩
      | some o =>
        obtain ⟨rc, h1, h2⟩ := owns_cell hb'
        rw [hg, if_pos rfl] at h1
        right
        exact own_blk (rc := rc) (by rw [hrow]; exact h1) h2
    · right
      unfold owns at hb' ⊢
      rw [hg, if_neg e1] at hb'
      simp only [if_neg e1] at hb'
      exact hb'
  have hrel := h.world (w' := w.alloc (.cells cs e)) (Chg.alloc (fun _ => False) w _) (fun _ _ hf => hf.elim)
  refine ⟨⟨hrel.size, ⟨by simp only [toBox, List.length_set]; exact hrel.rsize.1, fun t ht => by have h9 : st.s.length < t := ht; rw [if_neg (by omega)]; exact hrel.rsize.2 t ht⟩, hrel.defers, ⟨fun u => ?_, fun t κ t' κ' b h1 h2 => ?_, fun t κ b h1 => ?_, hrel.heap.low⟩, fun t κ b h1 => ?_, fun i hi => (hrel.slot i hi).mono fun v x hx => ?_, hrel.keep, hrel.new, hrel.chg⟩, by rw [hg, if_pos rfl]⟩
  · rw [hg]
    by_cases e1 : u = st.s.length
    · subst e1
      have e0 : (if st.s.length = st.s.length then Root.box row else st.r.getD st.s.length .none) = .box row := if_pos rfl
      rw [e0]
      simp only [if_true]
      refine ⟨⟨cs, e, ?_, hcs, hv⟩, fun o ho => ?_, fun o f ho => (noMe_get hme ho).elim⟩
      · show (w.heap.push _)[_]? = _
        simp
      · refine hrel.heap.cell (t := st.s.length) (o := o) ?_
        rw [hrow, List.getElem?_eq_getElem ho]
    · rw [if_neg e1]
      simp only [if_neg e1]
      exact hrel.heap.root u
  · rcases hown t κ b h1 with ⟨rfl, rfl, rfl⟩ | h1 <;> rcases hown t' κ' _ h2 with ⟨rfl, rfl, h3⟩ | h2
    · exact ⟨rfl, rfl⟩
    · exact absurd (h.heap.free _ _ _ h2).2 (by omega)
    · subst h3; exact absurd (h.heap.free _ _ _ h1).2 (by omega)
    · exact h.heap.inj _ _ _ _ b h1 h2
  · rcases hown t κ b h1 with ⟨rfl, rfl, rfl⟩ | h1
    · exact ⟨fun hs => absurd (h.heap.low.1 _ hs) (by omega), by simp⟩
    · exact hrel.heap.free t κ b h1
  · rcases hown t κ b h1 with ⟨rfl, rfl, rfl⟩ | h1
    · exact .inl h.chg.size
    · exact h.mine t κ b h1
  · have hne : ∀ t row', st.r.getD t .none = .box row' → t ≠ st.s.length := fun t row' h1 e1 => hb row' (e1 ▸ h1)
    refine hx.congr (fun t o rc _ _ h1 => ?_) (fun t o _ row' h1 h2 => ?_) (fun f caps _ t _ row' h1 => ?_)
    · refine ⟨?_, rfl⟩
      rw [hg]
      split
      · rename_i e1; subst e1; rw [hrow] at h1; exact h1
      · exact h1
    · refine ⟨row', by rw [hg, if_neg (hne t row' h1)]; exact h1, h2, by simp only [if_neg (hne t row' h1)]⟩
    · refine ⟨row', by rw [hg, if_neg (hne t row' h1)]; exact h1, rfl, by simp only [if_neg (hne t row' h1)]⟩
end Go.Proofs.Ytdmdcmhgfgookaa.A
