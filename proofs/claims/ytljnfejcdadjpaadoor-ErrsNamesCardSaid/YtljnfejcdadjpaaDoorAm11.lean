/- The ghost machine, part 11: loads, structs built; all operations that make and change nothing. -/
import Derived.Test.YtljnfejcdadjpaaDoorAm10
set_option linter.unusedSimpArgs false
set_option linter.unusedVariables false
set_option maxRecDepth 100000
set_option maxHeartbeats 4000000
namespace Go.Proofs.YtljnfejcdadjpaaDoor.A
open Go Go.RowKit
variable {P : Program} {T : TT} {w w0 : World} {S S0 : Nat → Prop} {F : Fr} {bx : Nat → Nat} {ph : Nat → Nat → Value} {a : Act} {st st' : St}

theorem shape_sound {v : Value} {k : K} {c : C} (h : CRep w S v c) (hk : okK k c) : CRep w S v (shape (std P T) k c) := by
  cases k with
  | int k => obtain ⟨n, rfl⟩ := hk; exact h
  | bool => obtain ⟨b, rfl⟩ := hk; exact h
  | str => obtain ⟨s, rfl⟩ := hk; exact h
  | sl =>
    rcases hk with rfl | ⟨n, cs, rfl⟩
    · rw [crep_nil h]; exact .sl0
    · exact h
  | raw => exact h

theorem run_loadVar_any (hT : TOk P T) {t : TypeId} {ti : TI} (ht : T t = some ti) (hsz : ti.size ≠ 0 ∧ (isAggD ti.desc = false → ti.size = 1)) (ad : Addr) (us : Nat → Value) (w' : World)
    (hc : ∀ k, k < ti.size → w'.cell? (ad.add k) = some (us k)) :
    (Instr.loadAt t (.pointer (some ad))).run P w' = .ok (if isAggD ti.desc then .agg ((List.range ti.size).map us).toArray else us 0) w' := by
  simp only [Instr.loadAt, Instr.sureAddr, Sem.run_bind, Sem.run_pure, Result.andThen_ok, loadVar, run_isAgg hT ht]
  cases hag : isAggD ti.desc with
  | true => simp [run_sizeOf hT ht, run_loadCells (P := P) w' ad ti.size us hc]
  | false =>
    have h0 := hc 0 (by omega)
    rw [Addr.add_zero'] at h0
    simp [load, Sem.run, h0]

theorem cX_sound {r : List Root} {v : Value} {c : C} (h : CRep w S v c) : XRep T w S r bx ph v (cX c) := by
  cases c with
  | mem cells off =>
    cases h with
    | mem vs h1 h2 h3 => exact ⟨_, _, vs, rfl, h1, h2, h3⟩
  | val => exact h
  | sl => exact h
  | nil => exact h
  | map => exact h
theorem rcX_sound {t o : Nat} {rc : RC} (h : Heap T w S st.r bx ph) (hc : (st.r.getD t .none).row[o]? = some rc) : XRep T w S st.r bx ph (ph t o) (rcX t o rc) := by
  have := h.cell hc
  cases rc with
  | st c => exact cX_sound this
  | own e n cells => exact ⟨e, n, cells, hc, rfl⟩
  | map kk m => exact ⟨kk, m, hc, rfl⟩
  | dead => trivial

theorem mk_sound {r : List Root} {ag : Bool} {xs : List X} {V : V} {us : Nat → Value} {n : Nat} (hm : mk ag xs = some V) (hl : xs.length = n) (hx : ∀ k (h : k < xs.length), XRep T w S r bx ph (us k) xs[k]) :
    VRep T w S r bx ph (if ag then .agg ((List.range n).map us).toArray else us 0) V := by
  unfold mk at hm
  cases ag with
  | true =>
    simp only [if_true, Option.some.injEq] at hm
    subst hm
    refine ⟨_, rfl, by simp [hl], fun k hk hk2 => ?_⟩
    have := hx k hk
    simpa using this
  | false =>
    simp only [Bool.false_eq_true, if_false] at hm
    split at hm
    · cases hm; exact hx 0 (by simp)
    · cases hm

theorem cells_sound {ks : List K} {cells : List C} {off : Nat} {us : Nat → Value} {r : List Root} (hr : ∀ k (h : k < cells.length), CRep w S (us k) cells[k]) (hle : off + ks.length ≤ cells.length)
    (hok : ∀ p ∈ okAt (std P T) ks cells off, p) : ∀ k (h : k < ((cellsAt (std P T) ks cells off).map cX).length), XRep T w S r bx ph (us (off + k)) ((cellsAt (std P T) ks cells off).map cX)[k] := by
  intro k hk
  have hk' : k < ks.length := by simpa [cellsAt] using hk
  have hlt : off + k < cells.length := by omega
  have e1 : (if k = 0 then off else (std P T).add off k) = off + k := by
    split
    · omega
    · rfl
  have h3 : cellAt cells (off + k) = cells[off + k] := by unfold cellAt; rw [List.getD_eq_getElem?_getD, List.getElem?_eq_getElem hlt]; rfl
  have e2 : ((cellsAt (std P T) ks cells off).map cX)[k] = cX (shape (std P T) ks[k] (cellAt cells (off + k))) := by
    simp only [cellsAt, List.getElem_map, List.getElem_zipIdx, Nat.zero_add]
    rw [e1]
    cases ks[k] <;> rfl
  rw [e2, h3]
  refine cX_sound (shape_sound (hr _ hlt) ?_)
  have := hok (okK ks[k] (cellAt cells (off + k))) (by
    unfold okAt
    refine List.mem_map.2 ⟨(ks[k], k), ?_, ?_⟩
    · rw [List.mem_zipIdx_iff_getElem?]; simp [hk']
    · dsimp only; rw [e1]; rfl)
  rwa [h3] at this

theorem load_sound (hT : TOk P T) (h : Heap T w S st.r bx ph) {t : TypeId} {u : Value} {U V : V} {obl : List Prop} (hu : VRep T w S st.r bx ph u U)
    (hp : loadV T (std P T) st t U = some (V, obl)) (ho : ∀ p ∈ obl, p) : ∃ z, (∀ w' : World, Keep S st.r bx ph w w' → (Instr.loadAt t u).run P w' = .ok z w') ∧ VRep T w S st.r bx ph z V := by
  unfold loadV at hp
  split at hp
  · rename_i ti ht
    split at hp
    · cases hp
    · rename_i hz
      have hsz : ti.size ≠ 0 ∧ (isAggD ti.desc = false → ti.size = 1) := by
        refine ⟨fun h => hz (.inl h), fun h => ?_⟩
        by_cases h1 : ti.size = 1
        · exact h1
        · exact absurd (.inr ⟨h, h1⟩) hz
      split at hp
      · rename_i t' o
        split at hp
        · rename_i hin
          rw [Option.map_eq_some_iff] at hp
          obtain ⟨V', hm, he⟩ := hp
          cases he
          obtain ⟨row, h1, h2, rfl⟩ := hu
          have hrow : (rootOf st.r t').row = row := by unfold rootOf; rw [h1]; rfl
          rw [hrow] at hin hm
          have hroot := h.root t'
          rw [h1] at hroot
          obtain ⟨⟨arr, e, hb, hs, hc⟩, hr⟩ := hroot
          have hown : owns st.r bx ph t' none = some (bx t') := owns_of_box h1
          refine ⟨_, fun w' hk => run_loadVar_any hT ht hsz _ (fun k => ph t' (o + k)) w' (fun k hk' => ?_), ?_⟩
          · rw [Addr.add_lit]
            have hb' : w'.heap[bx t']? = some (.cells arr e (0, 0)) := (hk.2 _ _ _ hown).trans hb
            have := hc (o + k) (by omega)
            simp [World.cell?, hb', this]
          · have hlen : (rowX t' row o ti.size).length = ti.size := by simp [rowX]; omega
            refine mk_sound hm hlen (fun k hk => ?_)
            have hk' : k < ti.size := by omega
            have e2 : (rowX t' row o ti.size)[k] = rcX t' (o + k) (row[o + k]'(by omega)) := by
              simp [rowX]
            rw [e2]
            refine rcX_sound h ?_
            rw [h1]
            show row[o + k]? = _
            rw [List.getElem?_eq_getElem (by omega)]
        · cases hp
      · rename_i t' o k
        split at hp
        · rename_i e' n cells hown
          split at hp
          · cases hp
          · rename_i hcl
            rw [Option.map_eq_some_iff] at hp
            obtain ⟨V', hm, he⟩ := hp
            simp only [Prod.mk.injEq] at he
            obtain ⟨rfl, rfl⟩ := he
            have hcl : ti.cells.length = ti.size := by simpa using hcl
            have hle : plus (std P T) k ti.size ≤ cells.length := ho _ (List.mem_cons_self ..)
            rw [plus_std] at hle
            have hc := ownAt_eq hown
            obtain ⟨e'', n'', cells'', g, cap, h1, h2, rfl⟩ := hu
            have key : ∀ w', Keep S st.r bx ph w w' → ∃ us : Nat → Value, (∀ k, k < cells.length → w'.cell? ⟨g, k, none⟩ = some (us k)) ∧ ∀ k (hk : k < cells.length), CRep w' S (us k) cells[k] := fun w' hk => by
              rcases own_form (own_cells h hc hk) with ⟨q1, q2, q3⟩ | ⟨g', cap', q1, q2, q3, q4, us, q5, q6⟩
              · rw [h2] at q1; cases q1
              · rw [h2] at q1; cases q1
                exact ⟨us, q5, q6⟩
            obtain ⟨us, u1, u2⟩ := key w (Keep.refl _ _ _ _ _)
            have hsame : ∀ w', Keep S st.r bx ph w w' → ∀ k, w'.cell? ⟨g, k, none⟩ = w.cell? ⟨g, k, none⟩ := fun w' hk k => by
              refine World.cell?_of_block (hk.2 t' (some o) g ?_)
              rw [owns_of_cell hc, h2]; rfl
            refine ⟨_, fun w' hk => run_loadVar_any hT ht hsz _ (fun i => us (k + i)) w' (fun i hi => ?_), ?_⟩
            · rw [Addr.add_lit]
              exact (hsame w' hk _).trans (u1 _ (by omega))
            · exact mk_sound hm (by simp [cellsAt, hcl]) (cells_sound u2 (by omega) (fun p hp => ho p (List.mem_cons_of_mem _ hp)))
        · cases hp
      · rename_i cells k
        split at hp
        · cases hp
        · rename_i hcl
          rw [Option.map_eq_some_iff] at hp
          obtain ⟨V', hm, he⟩ := hp
          simp only [Prod.mk.injEq] at he
          obtain ⟨rfl, rfl⟩ := he
          have hcl : ti.cells.length = ti.size := by simpa using hcl
          have hle : plus (std P T) k ti.size ≤ cells.length := ho _ (List.mem_cons_self ..)
          rw [plus_std] at hle
          obtain ⟨b, base, vs, rfl, h2, h3, h4⟩ := hu
          refine ⟨_, fun w' hk => run_loadVar_any hT ht hsz _ (fun i => vs (k + i)) w' (fun i hi => ?_), ?_⟩
          · rw [Addr.add_lit, Nat.add_assoc]
            exact (World.cell?_of_block (hk.1 _ h2)).trans (h3 _ (by omega))
          · exact mk_sound hm (by simp [cellsAt, hcl]) (cells_sound h4 (by omega) (fun p hp => ho p (List.mem_cons_of_mem _ hp)))
      · cases hp
  · cases hp
end Go.Proofs.YtljnfejcdadjpaaDoor.A
