/- The ghost machine, part 11: loads, structs built; all operations that make and change nothing. -/
import Derived.Test.YtdmdcmhgfgookaaAm10
set_option linter.unusedSimpArgs false
set_option linter.unusedVariables false
set_option maxRecDepth 100000
set_option maxHeartbeats 4000000
namespace Go.Proofs.Ytdmdcmhgfgookaa.A
open Go Go.RowKit
variable {P : Program} {T : TT} {w w0 : World} {S S0 : Nat → Prop} {F : Fr} {bx : Nat → Nat} {ph : Nat → Nat → Pv} {a : Act} {st st' : St}

theorem shape_sound {v : Value} {k : K} {c : C} (h : CRep w S v c) (hk : okK k c) : CRep w S v (shape (std P T) k c) := by
  cases k with
  | int k => obtain ⟨n, rfl⟩ := hk; exact h
  | bool => obtain ⟨b, rfl⟩ := hk; exact h
  | str => obtain ⟨s, rfl⟩ := hk; exact h
  | sl =>
    rcases hk with rfl | ⟨n, cs, rfl⟩
    · rw [crep_nil h]; exact .sl0
    · exact h
  | raw => exact h

theorem run_loadVar_any (hT : TOk P T) {t : TypeId} {ti : TI} (ht : T t = some ti) (hsz : ti.size ≠ 0 ∧ (isAggD ti.desc = false → ti.size = 1)) (ad : Addr) (us : Nat → Value) (w' : World)
    (hc : ∀ k, k < ti.size → w'.cell? (ad.add k) = some (us k)) :
    (Instr.loadAt t (.pointer (some ad))).run P w' = .ok (if isAggD ti.desc then .agg ((List.range ti.size).map us).toArray else us 0) w' := by
  simp only [Instr.loadAt, Instr.sureAddr, Sem.run_bind, Sem.run_pure, Result.andThen_ok, loadVar, run_isAgg hT ht]
  cases hag : isAggD ti.desc with
  | true => simp [run_sizeOf hT ht, run_loadCells (P := P) w' ad ti.size us hc]
  | false =>
    have h0 := hc 0 (by omega)
    rw [Addr.add_zero'] at h0
    simp [load, Sem.run, h0]

theorem cX_sound {r : List Root} {v : Value} {c : C} (h : CRep w S v c) : XRep T w S r bx ph v (cX c) := by
  cases c with
  | mem cells off =>
    cases h with
    | mem vs h1 h2 h3 => exact ⟨_, _, vs, rfl, h1, h2, h3⟩
  | val => exact h
  | sl => exact h
  | nil => exact h
  | map => exact h
theorem rcX_sound {t o : Nat} {rc : RC} (h : Heap T w S st.r bx ph) (hc : (st.r.getD t .none).row[o]? = some rc) : XRep T w S st.r bx ph (ph t o) (rcX t o rc) := by
  have := h.cell hc
  cases rc with
  | st c => exact cX_sound this
  | own e n cells => exact ⟨e, n, cells, hc, rfl⟩
  | map kk m => exact ⟨kk, m, hc, rfl⟩
  | tree sh c' hp =>
    obtain ⟨h1, _, ⟨e, ks, rfl⟩, h4⟩ := this
    refine ⟨_, _, _, ph t o, hc, Pv.get_nil _, ?_, ⟨e, ks, rfl⟩, fun hb => ?_, rfl⟩
    · simp [pathOk]
    · rcases h1.bval hb with h5 | h5
      · exact h5
      · cases hp with
        | none => cases h5
        | some p => exact absurd (by simpa [pathN] using h5) (h4 p rfl).1
  | me f => trivial
  | dead => trivial
theorem rcB_sound {t o : Nat} {rc : RC} {row : List RC} (h : Heap T w S st.r bx ph) (hb : st.r.getD t .none = .box row) (hc : row[o]? = some rc) : XRep T w S st.r bx ph (ph t o) (rcB t o rc) := by
  have hc' : (st.r.getD t .none).row[o]? = some rc := by rw [hb]; exact hc
  have h1 := rcX_sound h hc'
  cases rc with
  | me f =>
    have hr := h.root t
    rw [hb] at hr
    exact ⟨⟨row, hb, by have := (List.getElem?_eq_some_iff.1 hc).1; omega⟩, hr.2.2 o f hc⟩
  | st c => exact h1
  | own e n cells => exact h1
  | map kk m => exact h1
  | tree sh c p => exact h1
  | dead => exact h1

theorem mk_sound {r : List Root} {ag : Bool} {xs : List X} {V : V} {us : Nat → Value} {n : Nat} (hm : mk ag xs = some V) (hl : xs.length = n) (hx : ∀ k (h : k < xs.length), XRep T w S r bx ph (us k) xs[k]) :
    VRep T w S r bx ph (if ag then .agg ((List.range n).map us).toArray else us 0) V := by
  unfold mk at hm
  cases ag with
  | true =>
    simp only [if_true, Option.some.injEq] at hm
    subst hm
    refine ⟨_, rfl, by simp [hl], fun k hk hk2 => ?_⟩
    have := hx k hk
    simpa using this
  | false =>
    simp only [Bool.false_eq_true, if_false] at hm
    split at hm
    · cases hm; exact hx 0 (by simp)
    · cases hm

theorem cells_sound {ks : List K} {cells : List C} {off : Nat} {us : Nat → Value} {r : List Root} (hr : ∀ k (h : k < cells.length), CRep w S (us k) cells[k]) (hle : off + ks.length ≤ cells.length)
    (hok : ∀ p ∈ okAt (std P T) ks cells off, p) : ∀ k (h : k < ((cellsAt (std P T) ks cells off).map cX).length), XRep T w S r bx ph (us (off + k)) ((cellsAt (std P T) ks cells off).map cX)[k] := by
  intro k hk
  have hk' : k < ks.length := by simpa [cellsAt] using hk
  have hlt : off + k < cells.length := by omega
  have e1 : (if k = 0 then off else (std P T).add off k) = off + k := by
    split
    · omega
    · rfl
  have h3 : cellAt cells (off + k) = cells[off + k] := by unfold cellAt; rw [List.getD_eq_getElem?_getD, List.getElem?_eq_getElem hlt]; rfl
  have e2 : ((cellsAt (std P T) ks cells off).map cX)[k] = cX (shape (std P T) ks[k] (cellAt cells (off + k))) := by
    simp only [cellsAt, List.getElem_map, List.getElem_zipIdx, Nat.zero_add]
    rw [e1]
    cases ks[k] <;> rfl
  rw [e2, h3]
  refine cX_sound (shape_sound (hr _ hlt) ?_)
  have := hok (okK ks[k] (cellAt cells (off + k))) (by
    unfold okAt
    refine List.mem_map.2 ⟨(ks[k], k), ?_, ?_⟩
    · rw [List.mem_zipIdx_iff_getElem?]; simp [hk']
    · dsimp only; rw [e1]; rfl)
  rwa [h3] at this

/-- cells of a tree's slice, in a slot -/
theorem tp_sound {r : List Root} {t o : Nat} {p : Path} {sh : Sh} {c : C} {hh : Option Path} {q : Pv} {e : TypeId} {ks : List Sh} {kds : List K} {xs : List Value} {hp : Option (List Nat)} {k off i0 : Nat}
    (h1 : (r.getD t .none).row[o]? = some (.tree sh c hh)) (h2 : (ph t o).get? p = some q) (h3 : pathOk T sh p) (h4 : sh.to p = .sl e ks) (hk : k = i0 * szOf T e + off) (hfit : off + kds.length ≤ szOf T e)
    (hq : q.kids.length = xs.length) (hc : (gc (atC c p)).length = xs.length) (hle : k + kds.length ≤ xs.length)
    (hr : ∀ k (h1 : k < xs.length) (h2 : k < q.kids.length) (h3 : k < (gc (atC c p)).length), CRepT T w S (holeAt hp k) (ks.getD (k % szOf T e) .st) xs[k] q.kids[k] (gc (atC c p))[k])
    (hok : ∀ x ∈ okAt (std P T) kds (gc (atC c p)) k, x) : ∀ i (hi : i < (tpCells (std P T) t o p ks kds (gc (atC c p)) k off).length), XRep T w S r bx ph (xs.getD (k + i) undef) (tpCells (std P T) t o p ks kds (gc (atC c p)) k off)[i] := by
  intro i hi
  have hi' : i < kds.length := by simpa [tpCells] using hi
  have hx : k + i < xs.length := by omega
  have e1 : (if i = 0 then k else (std P T).add k i) = k + i := by
    split
    · omega
    · rfl
  have hmod : (k + i) % szOf T e = off + i := by
    rw [hk, Nat.add_assoc, Nat.mul_comm, Nat.mul_add_mod]
    exact Nat.mod_eq_of_lt (by omega)
  have hq' : k + i < q.kids.length := by omega
  have hc' : k + i < (gc (atC c p)).length := by omega
  have hcr := hr (k + i) hx hq' hc'
  rw [hmod] at hcr
  have hok1 := hok (okK kds[i] (cellAt (gc (atC c p)) (k + i))) (by
    unfold okAt
    refine List.mem_map.2 ⟨(kds[i], i), ?_, ?_⟩
    · rw [List.mem_zipIdx_iff_getElem?]; simp [hi']
    · dsimp only; rw [e1]; rfl)
  rw [cellAt_get hc'] at hok1
  rw [List.getD_eq_getElem?_getD, List.getElem?_eq_getElem hx]
  show XRep T w S r bx ph xs[k + i] _
  have e2 : (tpCells (std P T) t o p ks kds (gc (atC c p)) k off)[i] = match ks.getD (off + i) .st, kds[i] with
      | .sl _ _, .sl => .tv t o (p ++ [(k + i, off + i)])
      | .sl _ _, _ => .undef
      | .st, .raw => .undef
      | .st, kd => cX (shape (std P T) kd (cellAt (gc (atC c p)) (k + i))) := by
    simp only [tpCells, List.getElem_map, List.getElem_zipIdx, Nat.zero_add]
    rw [e1]; rfl
  rw [e2, cellAt_get hc']
  cases hs : ks.getD (off + i) .st with
  | st =>
    rw [hs] at hcr
    cases hkd : kds[i] with
    | raw => trivial
    | _ =>
      dsimp only
      rw [hkd] at hok1
      generalize (gc (atC c p))[k + i] = cc at *
      generalize q.kids[k + i] = qq at *
      generalize xs[k + i] = vv at *
      generalize holeAt hp (k + i) = hp' at *
      cases hcr with
      | st hcc => exact cX_sound (shape_sound hcc hok1)
      | hole => first | (obtain ⟨_, h⟩ := hok1; cases h) | (rcases hok1 with h | ⟨_, _, h⟩ <;> cases h)
  | sl e' ks' =>
    cases hkd : kds[i] with
    | sl =>
      dsimp only
      rw [hkd] at hok1
      rw [hs] at hcr
      refine ⟨sh, c, hh, q.kids[k + i], h1, Pv.get_snoc p h2 hq', pathOk_snoc p h3 h4 hmod, ⟨e', ks', by rw [Sh.to_snoc p h4]; exact hs⟩, fun hb => ?_, hcr.val⟩
      rcases hcr.bval hb with h | h
      · exact h
      · generalize (gc (atC c p))[k + i] = cc at *
        generalize q.kids[k + i] = qq at *
        generalize xs[k + i] = vv at *
        generalize holeAt hp (k + i) = hp' at *
        cases hcr with
        | nil _ => rfl
        | hole => rcases hok1 with h | ⟨_, _, h⟩ <;> cases h
        | node => cases hb
    | _ => trivial

theorem load_sound (hT : TOk P T) (h : Heap T w S st.r bx ph) {t : TypeId} {u : Value} {U V : V} {obl : List Prop} (hu : VRep T w S st.r bx ph u U)
    (hp : loadV T (std P T) st t U = some (V, obl)) (ho : ∀ p ∈ obl, p) : ∃ z, (∀ w' : World, Keep S st.r bx ph w w' → (Instr.loadAt t u).run P w' = .ok z w') ∧ VRep T w S st.r bx ph z V := by
  unfold loadV at hp
  split at hp
  · rename_i ti ht
    split at hp
    · cases hp
    · rename_i hz
      have hsz : ti.size ≠ 0 ∧ (isAggD ti.desc = false → ti.size = 1) := by
        refine ⟨fun h => hz (.inl h), fun h => ?_⟩
        by_cases h1 : ti.size = 1
        · exact h1
        · exact absurd (.inr ⟨h, h1⟩) hz
      split at hp
      · rename_i t' o
        split at hp
        · rename_i hin
          rw [Option.map_eq_some_iff] at hp
          obtain ⟨V', hm, he⟩ := hp
          cases he
          obtain ⟨row, h1, h2, rfl⟩ := hu
          have hrow : (rootOf st.r t').row = row := by unfold rootOf; rw [h1]; rfl
          rw [hrow] at hin hm
          have hroot := h.root t'
          rw [h1] at hroot
          obtain ⟨⟨arr, e, hb, hs, hc⟩, hr⟩ := hroot
          have hown : owns st.r bx ph t' none (bx t') := owns_of_box h1
          refine ⟨_, fun w' hk => run_loadVar_any hT ht hsz _ (fun k => ph t' (o + k)) w' (fun k hk' => ?_), ?_⟩
          · rw [Addr.add_lit]
            have hb' : w'.heap[bx t']? = some (.cells arr e (0, 0)) := (hk.2 _ _ _ hown).trans hb
            have := hc (o + k) (by omega)
            simp [World.cell?, hb', this]
          · have hlen : (rowB t' row o ti.size).length = ti.size := by simp [rowB]; omega
            refine mk_sound hm hlen (fun k hk => ?_)
            have hk' : k < ti.size := by omega
            have e2 : (rowB t' row o ti.size)[k] = rcB t' (o + k) (row[o + k]'(by omega)) := by
              simp [rowB]
            rw [e2]
            refine rcB_sound h h1 ?_
            rw [List.getElem?_eq_getElem (by omega)]
        · cases hp
      · rename_i t' o k
        split at hp
        · rename_i e' n cells hown
          split at hp
          · cases hp
          · rename_i hcl
            rw [Option.map_eq_some_iff] at hp
            obtain ⟨V', hm, he⟩ := hp
            simp only [Prod.mk.injEq] at he
            obtain ⟨rfl, rfl⟩ := he
            have hcl : ti.cells.length = ti.size := by simpa using hcl
            have hle : plus (std P T) k ti.size ≤ cells.length := ho _ (List.mem_cons_self ..)
            rw [plus_std] at hle
            have hc := ownAt_eq hown
            obtain ⟨e'', n'', cells'', g, cap, h1, h2, rfl⟩ := hu
            have key : ∀ w', Keep S st.r bx ph w w' → ∃ us : Nat → Value, (∀ k, k < cells.length → w'.cell? ⟨g, k, none⟩ = some (us k)) ∧ ∀ k (hk : k < cells.length), CRep w' S (us k) cells[k] := fun w' hk => by
              rcases own_form (own_cells h hc hk) with ⟨q1, q2, q3⟩ | ⟨g', cap', q1, q2, q3, q4, us, q5, q6⟩
              · rw [h2] at q1; cases q1
              · rw [h2] at q1; cases q1
                exact ⟨us, q5, q6⟩
            obtain ⟨us, u1, u2⟩ := key w (Keep.refl _ _ _ _ _)
            have hsame : ∀ w', Keep S st.r bx ph w w' → ∀ k, w'.cell? ⟨g, k, none⟩ = w.cell? ⟨g, k, none⟩ := fun w' hk k => by
              refine World.cell?_of_block (hk.2 t' (some o) g ?_)
              exact own_blk hc (by show (ph t' o).v.ownBlock = some g; rw [h2]; rfl)
            refine ⟨_, fun w' hk => run_loadVar_any hT ht hsz _ (fun i => us (k + i)) w' (fun i hi => ?_), ?_⟩
            · rw [Addr.add_lit]
              exact (hsame w' hk _).trans (u1 _ (by omega))
            · exact mk_sound hm (by simp [cellsAt, hcl]) (cells_sound u2 (by omega) (fun p hp => ho p (List.mem_cons_of_mem _ hp)))
        · cases hp
      · rename_i cells k
        split at hp
        · cases hp
        · rename_i hcl
          rw [Option.map_eq_some_iff] at hp
          obtain ⟨V', hm, he⟩ := hp
          simp only [Prod.mk.injEq] at he
          obtain ⟨rfl, rfl⟩ := he
          have hcl : ti.cells.length = ti.size := by simpa using hcl
          have hle : plus (std P T) k ti.size ≤ cells.length := ho _ (List.mem_cons_self ..)
          rw [plus_std] at hle
          obtain ⟨b, base, vs, rfl, h2, h3, h4⟩ := hu
          refine ⟨_, fun w' hk => run_loadVar_any hT ht hsz _ (fun i => vs (k + i)) w' (fun i hi => ?_), ?_⟩
          · rw [Addr.add_lit, Nat.add_assoc]
            exact (World.cell?_of_block (hk.1 _ h2)).trans (h3 _ (by omega))
          · exact mk_sound hm (by simp [cellsAt, hcl]) (cells_sound h4 (by omega) (fun p hp => ho p (List.mem_cons_of_mem _ hp)))
      · rename_i t' o p k off
        split at hp
        · rename_i e ks n cells hnode
          split at hp
          · cases hp
          · rename_i hcl
            rw [Option.map_eq_some_iff] at hp
            obtain ⟨V', hm, he⟩ := hp
            simp only [Prod.mk.injEq] at he
            obtain ⟨rfl, rfl⟩ := he
            have hcl2 : ti.cells.length = ti.size := by
              by_cases hh : ti.cells.length = ti.size
              · exact hh
              · exact absurd (.inl hh) hcl
            have hfit : off + ti.size ≤ szOf T e := Nat.le_of_not_lt fun hh => hcl (.inr hh)
            have hle : plus (std P T) k ti.size ≤ cells.length := ho _ (List.mem_cons_self ..)
            rw [plus_std] at hle
            obtain ⟨sh, c, hh, k1, k2, rfl, rfl⟩ := nodeAt_eq hnode
            obtain ⟨sh', c', hh', q, e2, ks2, g, n2, cap, m1, m2, m3, m4, m5, m6, ⟨i0, m7⟩, rfl⟩ := hu
            rw [k1] at m1; cases m1
            rw [k2] at m4; cases m4
            obtain ⟨t1, _, _, _⟩ := h.cell k1
            obtain ⟨hp', u, g1, _, _⟩ := CRepT.get p t1 m2 m3
            rw [k2] at g1
            rcases g1.sl_cases (fun hb => by rw [m5] at hb; cases hb) with ⟨_, _, _, q4, _⟩ | ⟨g', cap', xs, q1, q2, q3, q4, q5, q6, _, q8⟩
            · rw [m5] at q4; cases q4
            · rw [m5] at q1; cases q1
              rw [q2] at q3
              obtain ⟨hcell, _⟩ := ownsRow_cell q3
              have hgb : g ∈ (ph t' o).blks := Pv.get_blks p m2 g (by obtain ⟨v0, b0, ks0⟩ := q; cases (show b0 = some g from m5); exact mem_blks.2 (.inl rfl))
              have hsame : ∀ w', Keep S st.r bx ph w w' → ∀ k, w'.cell? ⟨g, k, none⟩ = w.cell? ⟨g, k, none⟩ := fun w' hk k =>
                World.cell?_of_block (hk.2 t' (some o) g (own_blk k1 hgb))
              refine ⟨_, fun w' hk => run_loadVar_any hT ht hsz _ (fun i => xs.getD (k + i) undef) w' (fun i hi => ?_), ?_⟩
              · rw [Addr.add_lit]
                have hx : k + i < xs.length := by omega
                refine (hsame w' hk _).trans ((hcell _ hx).trans ?_)
                rw [List.getD_eq_getElem?_getD, List.getElem?_eq_getElem hx]; rfl
              · exact mk_sound hm (by simp [tpCells, hcl2]) (tp_sound k1 m2 m3 k2 m7 (by omega) q5 q4 (by omega) q8 (fun p hp => ho p (List.mem_cons_of_mem _ hp)))
        · cases hp
      · cases hp
  · cases hp
end Go.Proofs.Ytdmdcmhgfgookaa.A
