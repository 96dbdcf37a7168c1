/- The ghost machine, part 15: the operations that make or change memory. -/
import Derived.Test.YtdmdcmhgfgookaaAm14
set_option linter.unusedSimpArgs false
set_option linter.unusedVariables false
set_option maxRecDepth 100000
set_option maxHeartbeats 4000000
namespace Go.Proofs.Ytdmdcmhgfgookaa.A
open Go Go.RowKit
variable {P : Program} {T : TT} {w w' w0 : World} {S S0 : Nat → Prop} {F : Fr} {bx : Nat → Nat} {ph : Nat → Nat → Pv} {a : Act} {st st' : St}

theorem freeze_spare {S' : Nat → Prop} (h : Frozen T w0 S0 F st st' a w S S' bx ph) (hsp : st.r.getD st.s.length .none = .none) : st'.r.getD st'.s.length .none = .none := by
  rw [h.len]; exact h.spare _ hsp

theorem flat_values {us : List V} (h : Heap T w S st.r bx ph) {vs : List Value} (hl : vs.length = us.length) (hv : ∀ k (h : k < us.length) (h2 : k < vs.length), VRep T w S st.r bx ph vs[k] us[k]) (hne : ∀ u ∈ us, cellsOfV u ≠ []) :
    ((vs.map fun v => v.cells.toList).flatten).length = ((us.map cellsOfV).flatten).length ∧ ∀ k (h1 : k < ((us.map cellsOfV).flatten).length) (h2 : k < ((vs.map fun v => v.cells.toList).flatten).length),
      XRep T w S st.r bx ph ((vs.map fun v => v.cells.toList).flatten)[k] ((us.map cellsOfV).flatten)[k] := by
  induction us generalizing vs with
  | nil =>
    have : vs = [] := List.eq_nil_of_length_eq_zero hl
    subst this
    exact ⟨rfl, fun k hk => absurd hk (by simp)⟩
  | cons u us ih =>
    cases vs with
    | nil => simp at hl
    | cons v vs =>
      have h0 : XsRep T w S st.r bx ph v.cells (cellsOfV u) := cellsOf_sound h (hv 0 (by simp) (by simp)) (hne u (List.mem_cons_self ..))
      obtain ⟨i1, i2⟩ := ih (vs := vs) (by simpa using hl) (fun k hk hk2 => hv (k + 1) (by simp; omega) (by simp; omega)) (fun u hu => hne u (List.mem_cons_of_mem _ hu))
      have hl0 : v.cells.toList.length = (cellsOfV u).length := by rw [Array.length_toList]; exact h0.1
      simp only [List.map_cons, List.flatten_cons]
      refine ⟨by rw [List.length_append, List.length_append, hl0, i1], fun k hk hk2 => ?_⟩
      by_cases hlt : k < (cellsOfV u).length
      · rw [List.getElem_append_left hlt, List.getElem_append_left (by omega)]
        have hk3 : k < v.cells.size := by rw [h0.1]; exact hlt
        simpa using h0.2 k hlt hk3
      · rw [List.getElem_append_right (by omega), List.getElem_append_right (by omega)]
        simp only [hl0]
        exact i2 _ _ _

theorem vals_of {xs : List Operand} (h : Rel T w0 S0 F st a w S bx ph) : ∀ k (h1 : k < (xs.map (ev st.s)).length) (h2 : k < (xs.map a.eval).length), VRep T w S st.r bx ph (xs.map a.eval)[k] (xs.map (ev st.s))[k] := by
  intro k h1 h2
  simp only [List.getElem_map]
  exact ev_sound h _

theorem buildSlice_sound (hT : TOk P T) (h : Rel T w0 S0 F st a w S bx ph) (hsp : st.r.getD st.s.length .none = .none) {t e : TypeId} {te : TI} {len : Nat} {parts : Array (Nat × Operand)} {cs : List C}
    (hd : descOf T t = .slice e) (hte : T e = some te) (hix : parts.toList.map (·.1) = List.range len) (hall : ∀ p ∈ parts.toList, (cellsOfV (ev st.s p.2)).length = te.size) (hsmall : len * te.size ≤ 2 ^ 24) (hz : te.size ≠ 0)
    (hcs : optAll ((parts.toList.map fun p => cellsOfV (ev st.s p.2)).flatten.map (stab T (std P T) st.r)) = some cs) {dst : Option Nat} (hdst : ∀ k, dst = some k → k < st.s.length) :
    ∃ z w', (Instr.buildSlice t len (parts.map fun p => (p.1, a.eval p.2))).run P w = .ok z w' ∧
      Rels T w0 S0 F (fin { ((parts.toList.map fun p => cellsOfV (ev st.s p.2)).flatten.foldl (freezeX T (std P T)) st) with r := pushR ((parts.toList.map fun p => cellsOfV (ev st.s p.2)).flatten.foldl (freezeX T (std P T)) st).r st.s.length (.own e len cs) } dst (fun d => .one (.view d 0))) (a.put dst z) w' ∧ Old w w' := by
  obtain ⟨_, ie, hie, his, hib, hiz, _⟩ := hT e te hte
  have ud := desc_of hT hd (by simp)
  have hlen : parts.toList.length = len := by have := congrArg List.length hix; simpa using this
  obtain ⟨f1, f2⟩ := flat_values (us := parts.toList.map fun p => ev st.s p.2) h.heap (vs := parts.toList.map fun p => a.eval p.2) (by simp) (fun k h1 h2 => by
    simp only [List.getElem_map]; exact ev_sound h _) (fun u hu => by
      obtain ⟨p, hp, rfl⟩ := List.mem_map.1 hu
      intro h0
      have := hall p hp
      rw [h0] at this
      exact hz this.symm)
  have e1 : ((parts.toList.map fun p => ev st.s p.2).map cellsOfV).flatten = (parts.toList.map fun p => cellsOfV (ev st.s p.2)).flatten := by rw [List.map_map]; rfl
  rw [e1] at f1 f2
  obtain ⟨S', hf, hcl, hcr⟩ := stab_all (P := P) h f1 f2 hcs
  have hvsz : ∀ v ∈ parts.toList.map (fun p => a.eval p.2), v.cells.size = te.size := fun v hv => by
    obtain ⟨p, hp, rfl⟩ := List.mem_map.1 hv
    have hne : cellsOfV (ev st.s p.2) ≠ [] := fun h0 => by
      have := hall p hp
      rw [h0] at this; exact hz this.symm
    rw [(cellsOf_sound h.heap (ev_sound h p.2) hne).1]; exact hall p hp
  obtain ⟨cells', g1, g2⟩ := fill_range (sz := te.size) (parts.toList.map fun p => a.eval p.2) 0 (parts.map fun p => (p.1, a.eval p.2)).toList ((Array.range (len * ie.size)).map (te.zero.cells[· % te.zero.cells.size]!))
    (by
      simp only [Array.toList_map, List.map_map, List.length_map, hlen]
      have : (fun x => 0 + x) = (id : Nat → Nat) := by funext x; simp
      rw [this, List.map_id, ← hix]; rfl)
    (by simp only [Array.toList_map, List.map_map]; rfl) (by simp [hlen, his]) hvsz
  simp only [Nat.zero_mul, List.take_zero, List.nil_append] at g2
  have hrun : (Instr.buildSlice t len (parts.map fun p => (p.1, a.eval p.2))).run P w = .ok (.slice (some ⟨w.heap.size, 0, none⟩) len len) (w.alloc (.cells cells' e)) := by
    by_cases hz0 : len * te.size = 0
    · have hl0 : len = 0 := by
        rcases Nat.mul_eq_zero.1 hz0 with h0 | h0
        · exact h0
        · exact absurd h0 hz
      subst hl0
      have hp0 : parts = #[] := by
        apply Array.eq_empty_of_size_eq_zero; simpa using hlen
      subst hp0
      have hc0 : cells' = #[] := by
        apply Array.toList_inj.1; rw [g2]; rfl
      subst hc0
      simp [Instr.buildSlice, run_underlying ud, sizeOf, typeInfo, hie, newRow, Instr.fill, Array.range_zero']
    · exact run_buildSlice (P := P) w t e len _ cells' ie te.zero ud hie hiz (by rw [his]; omega) (by rw [his]; exact hz0) (by rw [his]; rw [his] at g1; exact g1)
  have hsz : szOf T e = te.size := by simp [szOf, hte]
  have hcl2 : cells'.toList.length = len * te.size := by
    rw [g2, f1]
    have key : ∀ l : List (Nat × Operand), (∀ p ∈ l, (cellsOfV (ev st.s p.2)).length = te.size) → ((l.map fun p => cellsOfV (ev st.s p.2)).flatten).length = l.length * te.size := fun l => by
      induction l with
      | nil => intro _; simp
      | cons p l ih =>
        intro hl
        rw [List.map_cons, List.flatten_cons, List.length_append, ih (fun q hq => hl q (List.mem_cons_of_mem _ hq)), hl p (List.mem_cons_self ..), List.length_cons, Nat.succ_mul]; omega
    rw [key _ hall, hlen]
  refine ⟨_, _, hrun, ?_, old_alloc _⟩
  have hlm : len ≤ maxLen := by
    have : len ≤ len * te.size := Nat.le_mul_of_pos_right _ (by omega)
    unfold maxLen; omega
  have hrc := own_new (T := T) (w := w) (S := S') (e := e) (n := len) (cap := len) (cur := cells') (cells := cs) (xs := cells'.toList) (Nat.le_refl _) hlm (by rw [hsz, ← hcl2]; simp) (by rw [hsz, List.take_of_length_le (by omega)]) (by rw [hsz]; exact hcl2)
    (by rw [hcl, g2]) (fun k q1 q2 => by
      have q3 : k < ((parts.toList.map fun p => a.eval p.2).map fun v => v.cells.toList).flatten.length := by rw [← g2]; exact q2
      have := hcr k q1 q3
      have e2 : cells'.toList[k] = (((parts.toList.map fun p => a.eval p.2).map fun v => v.cells.toList).flatten)[k] := by
        congr 1
      rw [e2]; exact this) (fun b hb => hf.rel.heap.low.1 b hb) w rfl
  have := own_fin hf.rel (freeze_spare hf hsp) (w' := w.alloc (.cells cells' e)) (W := fun _ => False) (Chg.alloc _ w _) (fun _ _ hf => hf.elim) hrc (fun b hb => by
    cases hb; exact ⟨by simp, .inl (Nat.le_refl _)⟩) (dst := dst) (fun k hk => by rw [hf.len]; exact hdst k hk)
  rw [hf.len] at this
  exact this
end Go.Proofs.Ytdmdcmhgfgookaa.A
