/- The ghost machine, part 10: cuts, loads, structs; all operations that make and change nothing. -/
import Derived.Test.YtdmdcmhgfgookaaAm9
set_option linter.unusedSimpArgs false
set_option linter.unusedVariables false
set_option maxRecDepth 100000
set_option maxHeartbeats 4000000
namespace Go.Proofs.Ytdmdcmhgfgookaa.A
open Go Go.RowKit
variable {P : Program} {T : TT} {w w0 : World} {S S0 : Nat → Prop} {F : Fr} {bx : Nat → Nat} {ph : Nat → Nat → Pv} {a : Act} {st st' : St}

/-- the bound's value fits what the machine says of it -/
def BRep (b : Option Value) (i : Option (Option Int)) : Prop :=
  match b, i with
  | none, none => True
  | some v, some (some n) => ∃ k, v = .int k n
  | some _, some none => True
  | _, _ => False
theorem cut_sound {n cap l h : Nat} {lov hiv : Option Value} {lo hi : Option (Option Int)} {obl : List Prop} {b : Bool} (hcap : n ≤ cap) (hl : BRep lov lo) (hh : BRep hiv hi)
    (hp : cutV (std P T) n lo hi = some (l, h, obl)) (ho : ∀ p ∈ obl, p) : l ≤ h ∧ h ≤ n ∧ ∀ w' : World, (Instr.sliceBounds b n cap lov hiv none).run P w' = .ok (l, h, cap) w' := by
  have hb : ∀ (k : IntKind) (i : Int) (y : Nat) (c : BoundsCode) (w' : World), 0 ≤ i → i ≤ (y : Int) → (Instr.sliceBound (.int k i) y c).run P w' = .ok i.toNat w' := fun k i y c w' h0 h1 => by
    simp [Instr.sliceBound, asIntOf, h0, h1]
  unfold cutV at hp
  split at hp
  · cases hp
    cases lov with
    | some v => exact hl.elim
    | none =>
      cases hiv with
      | some v => exact hh.elim
      | none => exact ⟨Nat.zero_le _, Nat.le_refl _, fun w' => by simp [Instr.sliceBounds]⟩
  · rename_i i
    cases hp
    have h0 : 0 ≤ i := ho _ (List.mem_cons_self ..)
    have h1 : i ≤ (n : Int) := ho _ (List.mem_cons_of_mem _ (List.mem_cons_self ..))
    cases lov with
    | none => exact hl.elim
    | some v =>
      obtain ⟨k, rfl⟩ := hl
      cases hiv with
      | some v => exact hh.elim
      | none =>
        refine ⟨?_, Nat.le_refl _, fun w' => ?_⟩
        · show i.toNat ≤ n
          omega
        · show _ = Result.ok (i.toNat, n, cap) w'
          have := hb k i n .sliceB w' h0 h1
          simp [Instr.sliceBounds, this]
  · rename_i i
    cases hp
    have h0 : 0 ≤ i := ho _ (List.mem_cons_self ..)
    have h1 : i ≤ (n : Int) := ho _ (List.mem_cons_of_mem _ (List.mem_cons_self ..))
    cases lov with
    | some v => exact hl.elim
    | none =>
      cases hiv with
      | none => exact hh.elim
      | some v =>
        obtain ⟨k, rfl⟩ := hh
        refine ⟨Nat.zero_le _, ?_, fun w' => ?_⟩
        · show i.toNat ≤ n
          omega
        · show _ = Result.ok (0, i.toNat, cap) w'
          cases b <;> simp [Instr.sliceBounds, hb k i cap _ w' h0 (by omega)]
  · rename_i i i2
    cases hp
    have h0 : 0 ≤ i := ho _ (List.mem_cons_self ..)
    have h1 : i ≤ i2 := ho _ (List.mem_cons_of_mem _ (List.mem_cons_self ..))
    have h2 : i2 ≤ (n : Int) := ho _ (List.mem_cons_of_mem _ (List.mem_cons_of_mem _ (List.mem_cons_self ..)))
    cases lov with
    | none => exact hl.elim
    | some v =>
      obtain ⟨k, rfl⟩ := hl
      cases hiv with
      | none => exact hh.elim
      | some v =>
        obtain ⟨k2, rfl⟩ := hh
        refine ⟨?_, ?_, fun w' => ?_⟩
        · show i.toNat ≤ i2.toNat
          omega
        · show i2.toNat ≤ n
          omega
        · show _ = Result.ok (i.toNat, i2.toNat, cap) w'
          cases b <;> simp [Instr.sliceBounds, hb k2 i2 cap _ w' (by omega) (by omega), hb k i i2.toNat _ w' h0 (by omega)]
  · cases hp

theorem slice_sound (hT : TOk P T) (h : Heap T w S st.r bx ph) {t : TypeId} {u : Value} {U V : V} {obl : List Prop} {lov hiv : Option Value} {lo hi : Option (Option Int)} (hu : VRep T w S st.r bx ph u U) (hl : BRep lov lo) (hh : BRep hiv hi)
    (hp : sliceV T (std P T) st t U lo hi = some (V, obl)) (ho : ∀ p ∈ obl, p) : ∃ z, (∀ w' : World, (Instr.sliceAt t u lov hiv none).run P w' = .ok z w') ∧ VRep T w S st.r bx ph z V := by
  have hrun : ∀ (e : TypeId) (te : TI) (aa : Option Addr) (n cap l hh' : Nat) (w' : World), elemOf T t = some (e, te) → (Instr.sliceBounds true n cap lov hiv none).run P w' = .ok (l, hh', cap) w' →
      (Instr.sliceAt t (.slice aa n cap) lov hiv none).run P w' = .ok (.slice (if cap = l then aa else aa.map (·.add (l * te.size))) (hh' - l) (cap - l)) w' := fun e te aa n cap l hh' w' hel hb => by
    obtain ⟨hd, hte, hsz⟩ := elemOf_desc hT hel
    simp [Instr.sliceAt, Instr.slice, run_underlying hd, hb, run_sizeOf hT hte]
  unfold sliceV at hp
  split at hp
  · rename_i s
    split at hp
    · rename_i hd
      split at hp
      · rename_i l h' obl' hc
        cases hp
        obtain ⟨rfl, _⟩ := crep_val hu
        obtain ⟨h1, h2, h3⟩ := cut_sound (b := false) (Nat.le_refl _) hl hh hc ho
        have ud := desc_of hT hd (by simp)
        refine ⟨_, fun w' => ?_, .val rfl⟩
        have h3' : (Instr.sliceBounds false s.size s.size lov hiv none).run P w' = .ok (l, h', s.size) w' := h3 w'
        simp [Instr.sliceAt, Instr.slice, run_underlying ud, h3']
        rfl
      · cases hp
    · cases hp
  · rename_i n cells
    split at hp
    · rename_i e te hel
      obtain ⟨hd, hte, hsz⟩ := elemOf_desc hT hel
      split at hp
      · rename_i l h' obl' hc
        cases hp
        obtain ⟨aa, cap, rfl⟩ := crep_sl hu
        have hcap : n ≤ cap := by
          have hu' : CRep w S (.slice aa n cap) (.sl n cells) := hu
          cases hu' with
          | sl0 => omega
          | sl _ _ hn _ _ => exact hn
        obtain ⟨h1, h2, h3⟩ := cut_sound (b := true) hcap hl hh hc ho
        refine ⟨_, fun w' => hrun e te aa n cap l h' w' hel (h3 w'), ?_⟩
        rw [mulSz_std, mulSz_std]
        have e1 : (if l = 0 then h' else (std P T).sub h' l) = h' - l := by
          split
          · omega
          · rfl
        rw [e1]
        refine crep_sub (cells := cells) (n := n) (aa := aa) (cap := cap) hu h2 (by omega) (fun hlt => ?_)
        have hu' : CRep w S (.slice aa n cap) (.sl n cells) := hu
        cases hu' with
        | sl0 => omega
        | sl vs hs hn hc' hr => exact ⟨_, _, rfl, by rw [if_neg (by omega)]; simp [Addr.add_lit]⟩
      · cases hp
    · cases hp
  · rename_i t' o
    split at hp
    · rename_i e te e' n cells hel hown
      split at hp
      · rename_i he
        subst he
        have hc := ownAt_eq hown
        obtain ⟨hd, hte, hsz⟩ := elemOf_desc hT hel
        have hu0 := hu
        obtain ⟨_, _, _, _, rfl⟩ := hu
        obtain ⟨aa, cap, hv, hcap, hg⟩ : ∃ aa cap, (ph t' o).v = .slice aa n cap ∧ n ≤ cap ∧ (0 < n → ∃ g, aa = some ⟨g, 0, none⟩) := by
          rcases own_form (h.cell hc) with ⟨h1, h2, h3⟩ | ⟨g, cap, h1, h2, h3, h4, us, h5, h6⟩
          · exact ⟨none, 0, by rw [h1, h2], by omega, fun h => by omega⟩
          · exact ⟨_, cap, h1, h2, fun _ => ⟨g, rfl⟩⟩
        have sub : ∀ l h' obl', cutV (std P T) n lo hi = some (l, h', obl') → (∀ p ∈ obl', p) → ∃ z, (∀ w' : World, (Instr.sliceAt t (ph t' o).v lov hiv none).run P w' = .ok z w') ∧ VRep T w S st.r bx ph z (.one (.sub t' o l h')) := by
          intro l h' obl' hcut ho'
          obtain ⟨h1, h2, h3⟩ := cut_sound (b := true) hcap hl hh hcut ho'
          refine ⟨_, fun w' => by rw [hv]; exact hrun e te aa n cap l h' w' hel (h3 w'), e, n, cells, aa, cap, _, hc, hv, h1, h2, rfl, fun hl0 => ?_, fun hlt => ?_⟩
          · subst hl0
            split
            · rfl
            · cases aa <;> simp [Addr.add]
          · obtain ⟨g, rfl⟩ := hg (by omega)
            refine ⟨g, rfl, ?_⟩
            rw [if_neg (by omega), hsz]
            simp [Addr.add_lit]
        split at hp
        · cases hp
          refine ⟨(ph t' o).v, fun w' => ?_, hu0⟩
          have := (cut_sound (P := P) (T := T) (b := true) hcap hl hh (by rfl : cutV (std P T) n none none = some (0, n, [])) (fun p hp => by cases hp)).2.2 w'
          rw [hv, hrun e te aa n cap 0 n w' hel this]
          congr 2
          split
          · rfl
          · cases aa <;> simp [Addr.add]
        · split at hp
          · rename_i l h' obl' hcut
            cases hp
            exact sub l h' obl hcut ho
          · cases hp
      · cases hp
    · cases hp
  · cases hp
end Go.Proofs.Ytdmdcmhgfgookaa.A
