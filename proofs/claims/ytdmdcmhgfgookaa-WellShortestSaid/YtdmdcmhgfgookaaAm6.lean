/- The ghost machine, part 6: push, freeze, name are sound. -/
import Derived.Test.YtdmdcmhgfgookaaAm5
set_option linter.unusedSimpArgs false
set_option linter.unusedVariables false
set_option maxRecDepth 100000
set_option maxHeartbeats 4000000
namespace Go.Proofs.Ytdmdcmhgfgookaa.A
open Go
variable {P : Program} {T : TT} {w w0 : World} {S S0 : Nat → Prop} {F : Fr} {bx : Nat → Nat} {ph : Nat → Nat → Pv} {a : Act} {st st' : St}

theorem XRep.push {r : List Root} {N : Nat} (hN : N < r.length) (hb : ∀ row, r.getD N .none ≠ .box row) {rc : RC} {v : Pv} {u : Value} {y : X} (h : XRep T w S r bx ph u y) :
    XRep T w S (pushR r N rc) bx (phPush ph N (r.getD N .none).row.length v) u y := by
  refine h.congr (fun t o rc' _ _ hc => ?_) (fun t o _ row h1 h2 => ?_) (fun f caps _ t _ row h1 => ?_)
  · obtain ⟨ho, _⟩ := List.getElem?_eq_some_iff.1 hc
    rw [getD_push hN]
    by_cases e : N = t
    · subst e
      rw [if_pos rfl]
      refine ⟨?_, ?_⟩
      · show ((r.getD N .none).row ++ [rc])[o]? = _
        rw [List.getElem?_append_left ho]; exact hc
      · unfold phPush; rw [if_neg (by omega)]
    · rw [if_neg e]
      exact ⟨hc, by unfold phPush; rw [if_neg (fun hh => e hh.1.symm)]⟩
  · refine ⟨row, ?_, h2, rfl⟩
    rw [getD_push hN, if_neg (by rintro rfl; exact hb row h1)]; exact h1
  · refine ⟨row, ?_, rfl, rfl⟩
    rw [getD_push hN, if_neg (by rintro rfl; exact hb row h1)]; exact h1

theorem XRep.dead {r : List Root} {t o : Nat} {u : Value} {y : X} (h : XRep T w S r bx ph u y) (hy : ofCell t o y = false) : XRep T w S (setCellR r t o .dead) bx ph u y := by
  refine h.congr (fun t' o' rc' ho' _ hc => ?_) (fun t' o' _ row h1 h2 => ?_) (fun f caps _ t' _ row h1 => ?_)
  · refine ⟨?_, rfl⟩
    rw [row_setCell]
    split
    · rename_i e; subst e
      rw [List.getElem?_set]
      split
      · rename_i e; subst e; rw [hy] at ho'; cases ho'
      · exact hc
    · exact hc
  · obtain ⟨row', a, b⟩ := box_setCell (t := t) (o := o) (rc := .dead) h1
    exact ⟨row', a, by omega, rfl⟩
  · obtain ⟨row', a, b⟩ := box_setCell (t := t) (o := o) (rc := .dead) h1
    exact ⟨row', a, b, rfl⟩

theorem map_id' (s : List V) : s.map (mapV fun x => x) = s := by
  have : (mapV fun x => x) = id := by funext V; exact mapV_id V
  rw [this]; simp

/-- what a push leaves -/
structure Pushed (T : TT) (w0 : World) (S0 : Nat → Prop) (F : Fr) (st st' : St) (a : Act) (w : World) (S : Nat → Prop) (bx : Nat → Nat) (ph ph' : Nat → Nat → Pv) (vs : List Value) : Prop where
  rel : Rel T w0 S0 F st' a w S bx ph'
  len : st'.s.length = st.s.length
  row : ∃ rcs : List RC, rcs.length = vs.length ∧ (st'.r.getD st.s.length .none).row = (st.r.getD st.s.length .none).row ++ rcs
  loose : ∀ row, st'.r.getD st.s.length .none ≠ .box row
  vals : ∀ k (h : k < vs.length), (ph' st.s.length ((st.r.getD st.s.length .none).row.length + k)).v = vs[k]
  old : ∀ k, k < (st.r.getD st.s.length .none).row.length → ph' st.s.length k = ph st.s.length k
  boxes : ∀ t row, st.r.getD t .none = .box row → ∃ row', st'.r.getD t .none = .box row' ∧ row'.length = row.length
  back : ∀ t row, t ≠ st.s.length → st'.r.getD t .none = .box row → ∃ row', st.r.getD t .none = .box row' ∧ row'.length = row.length
  phs : ∀ t o : Nat, t ≠ st.s.length → ph' t o = ph t o
  same : ∀ t o : Nat, t ≠ st.s.length → (st'.r.getD t .none).row[o]? = (st.r.getD t .none).row[o]? ∨ (st'.r.getD t .none).row[o]? = some RC.dead

theorem push_sound (h : Rel T w0 S0 F st a w S bx ph) (hb : ∀ row, st.r.getD st.s.length .none ≠ .box row) {x : X} {v : Value} (hx : XRep T w S st.r bx ph v x)
    (hp : push T (std P T) st x = some st') :
    ∃ ph', Pushed T w0 S0 F st st' a w S bx ph ph' [v] ∧ ∀ u y, (∀ t o, cellOf x = some (t, o) → ofCell t o y = false) → XRep T w S st.r bx ph u y → XRep T w S st'.r bx ph' u y := by
  have hN : st.s.length < st.r.length := by have := h.rsize.1; omega
  have fin : ∀ (r1 : List Root) (rc : RC) (p : X → Bool) (pv : Pv), pv.v = v → r1.length = st.r.length → r1.getD st.s.length .none = st.r.getD st.s.length .none → Heap T w S r1 bx ph →
      RCRep T w S pv rc → (∀ b, rc.blk pv b → (∃ t κ, owns st.r bx ph t κ b) ∧ ∀ u κ, ¬ owns r1 bx ph u κ b) →
      (∀ t κ b, owns r1 bx ph t κ b → owns st.r bx ph t κ b) → (∀ u y, p y = false → XRep T w S st.r bx ph u y → XRep T w S r1 bx ph u y) →
      (∀ t row, st.r.getD t .none = .box row → ∃ row', r1.getD t .none = .box row' ∧ row'.length = row.length) →
      (∀ t row, r1.getD t .none = .box row → ∃ row', st.r.getD t .none = .box row' ∧ row'.length = row.length) →
      (∀ t o : Nat, (r1.getD t .none).row[o]? = (st.r.getD t .none).row[o]? ∨ (r1.getD t .none).row[o]? = some RC.dead) →
      st' = { s := kill p st.s, r := pushR r1 st.s.length rc } →
      ∃ ph', Pushed T w0 S0 F st st' a w S bx ph ph' [v] ∧ ∀ u y, p y = false → XRep T w S st.r bx ph u y → XRep T w S st'.r bx ph' u y := by
    intro r1 rc p pv hpv hl hg hh hrc hfree hsub hxr hbx hbk hsm he
    subst he
    have hN1 : st.s.length < r1.length := by rw [hl]; exact hN
    have hb1 : ∀ row, r1.getD st.s.length .none ≠ .box row := by rw [hg]; exact hb
    have hh2 := Heap.push hh hN1 hb1 hrc (fun b h1 => by
      obtain ⟨⟨t, κ, h3⟩, h4⟩ := hfree b h1
      exact ⟨(h.heap.free t κ b h3).1, (h.heap.free t κ b h3).2, h4⟩)
    refine ⟨phPush ph st.s.length (r1.getD st.s.length .none).row.length pv, ⟨?_, by simp [kill], ⟨[rc], rfl, ?_⟩, ?_, ?_, ?_, ?_, ?_, fun t o hne => ?_, fun t o hne => ?_⟩, fun u y hy hu => XRep.push hN1 hb1 (hxr u y hy hu)⟩
    · refine h.ghost (fun x => if p x then .undef else x) rfl (by simp [length_push, hl]) hh2 (fun t κ b hb' => ?_) (fun u y hu => ?_) (fun _ h => h) (fun _ h => .inl h)
      · rcases owns_push hN1 hb1 hb' with ⟨_, _, hv⟩ | ⟨h1, _⟩
        · exact (hfree b hv).1
        · exact ⟨t, κ, hsub t κ b h1⟩
      · dsimp only
        split
        · trivial
        · rename_i hp; exact XRep.push hN1 hb1 (hxr u y (by simpa using hp) hu)
    · rw [getD_push hN1, if_pos rfl, hg]; rfl
    · intro row; rw [getD_push hN1, if_pos rfl]; exact fun h => by cases h
    · intro k hk
      have : k = 0 := by simpa using hk
      subst this
      unfold phPush; rw [hg]; simpa using hpv
    · intro k hk
      unfold phPush; rw [hg, if_neg (by omega)]
    · intro t row h1
      obtain ⟨row', h2, h3⟩ := hbx t row h1
      refine ⟨row', ?_, h3⟩
      rw [getD_push hN1, if_neg (by rintro rfl; exact hb1 row' h2)]; exact h2
    · intro t row hne h1
      rw [getD_push hN1, if_neg (fun e => hne e.symm)] at h1
      exact hbk t row h1
    · unfold phPush; rw [if_neg (fun e => hne e.1)]
    · rw [getD_push hN1, if_neg (fun e => hne e.symm)]; exact hsm t o
  have hbd : ∀ t o u row, (setCellR st.r t o .dead).getD u .none = .box row → ∃ row', st.r.getD u .none = .box row' ∧ row'.length = row.length := fun t o u row h1 => by
    rw [getD_setCell] at h1
    split at h1
    · rename_i e; subst e
      cases hR : st.r.getD t .none with
      | none => rw [hR] at h1; cases h1
      | loose row' => rw [hR] at h1; cases h1
      | box row' => rw [hR] at h1; cases h1; exact ⟨row', rfl, by simp [Root.row]⟩
    · exact ⟨row, h1, rfl⟩
  have ownCase : ∀ t o rc0, (st.r.getD t .none).row[o]? = some rc0 → t ≠ st.s.length → ∀ (rc : RC) (pv : Pv), pv.v = v → RCRep T w S pv rc → (∀ b, rc.blk pv b → rc0.blk (ph t o) b) →
      st' = { s := kill (ofCell t o) st.s, r := pushR (setCellR st.r t o .dead) st.s.length rc } →
      ∃ ph', Pushed T w0 S0 F st st' a w S bx ph ph' [v] ∧ ∀ u y, ofCell t o y = false → XRep T w S st.r bx ph u y → XRep T w S st'.r bx ph' u y := by
    intro t o rc0 hc hne rc pv hpv hrc hv he
    refine fin (setCellR st.r t o .dead) rc (ofCell t o) pv hpv (length_setCell _ _ _ _) ?_ (h.heap.dead t o) hrc ?_ (fun t κ b hb' => (owns_dead hb').1) (fun u y hy hu => XRep.dead hu hy) (fun u row h1 => box_setCell h1) (hbd t o) (fun u o' => ?_) he
    · rw [getD_setCell, if_neg hne]
    · intro b hb'
      have h1 := own_blk (bx := bx) (ph := ph) hc (hv b hb')
      refine ⟨⟨t, some o, h1⟩, fun u κ h2 => ?_⟩
      obtain ⟨h3, h4⟩ := owns_dead h2
      exact h4 (h.heap.inj _ _ _ _ b h3 h1)
    · rw [row_setCell]
      split
      · rename_i e1; subst e1
        rw [List.getElem?_set]
        split
        · split
          · exact .inr rfl
          · rename_i e2 e3
            left
            rw [← e2, List.getElem?_eq_none (by omega)]
        · exact .inl rfl
      · exact .inl rfl
  unfold push at hp
  cases x with
  | c c =>
    simp only [Option.some.injEq] at hp
    obtain ⟨ph', h1, h2⟩ := fin st.r (.st c) (fun _ => false) (.of v) rfl rfl rfl h.heap hx (fun b he => he.elim) (fun _ _ _ h => h) (fun _ _ _ h => h) (fun t row h1 => ⟨row, h1, rfl⟩) (fun t row h1 => ⟨row, h1, rfl⟩) (fun _ _ => .inl rfl)
      (by rw [← hp]; simp only [kill]; congr 1; exact (map_id' _).symm)
    exact ⟨ph', h1, fun u y _ hu => h2 u y rfl hu⟩
  | view t o =>
    dsimp only at hp
    split at hp
    · rename_i e n cells ho
      split at hp
      · cases hp
      · rename_i hne
        simp only [Option.some.injEq] at hp
        obtain ⟨e', n', cells', hc, hv⟩ := hx
        have hc2 := ownAt_eq ho
        obtain ⟨ph', h1, h2⟩ := ownCase t o _ hc2 hne (.own e n cells) (ph t o) hv.symm (h.heap.cell hc2) (fun b hb' => hb') hp.symm
        exact ⟨ph', h1, fun u y hy hu => h2 u y (hy t o rfl) hu⟩
    · cases hp
  | mv t o =>
    dsimp only at hp
    split at hp
    · rename_i kk m ho
      split at hp
      · cases hp
      · rename_i hne
        simp only [Option.some.injEq] at hp
        obtain ⟨kk', m', hc, hv⟩ := hx
        have hc2 := mapAt_eq ho
        obtain ⟨ph', h1, h2⟩ := ownCase t o _ hc2 hne (.map kk m) (ph t o) hv.symm (h.heap.cell hc2) (fun b hb' => hb') hp.symm
        exact ⟨ph', h1, fun u y hy hu => h2 u y (hy t o rfl) hu⟩
    · cases hp
  | sub t o lo hi =>
    dsimp only at hp
    split at hp
    · rename_i e n cells ho
      split at hp
      · cases hp
      · rename_i hne
        have hne1 : t ≠ st.s.length := fun h => hne (.inl h)
        have hlo : lo = 0 := by
          by_cases hh : lo = 0
          · exact hh
          · exact absurd (.inr hh) hne
        subst hlo
        simp only [Option.some.injEq] at hp
        obtain ⟨e', n', cells', aa, cap, a', hc, hv, h1, h2, h3, h4, _⟩ := hx
        have hc2 := ownAt_eq ho
        rw [hc] at hc2
        cases hc2
        have ha := h4 rfl
        subst ha
        obtain ⟨xs, x1, x2, x3⟩ := h.heap.cell hc
        rw [hv] at x1
        have hrc2 : RCRep T w S (.of v) (.own e hi ((std P T).ext cells 0 (mulSz (std P T) hi (szOf T e)))) := by
          rw [mulSz_std]
          refine ⟨xs.take (hi * szOf T e), ?_, ?_, ?_⟩
          · show World.ownsRow _ _ _ _ v _ _; rw [h3]; simpa using owns_take x1 h2
          · show _ = (extC cells 0 (hi * szOf T e)).length
            simp [extC, x2]
          · intro k hk hk2
            have hk' : k < (extC cells 0 (hi * szOf T e)).length := hk
            have hk3 : k < cells.length := by simp [extC] at hk'; omega
            have e1 : (extC cells 0 (hi * szOf T e))[k] = cells[k] := by simp [extC]
            show CRep w S (xs.take (hi * szOf T e))[k] (extC cells 0 (hi * szOf T e))[k]
            rw [e1, List.getElem_take]
            exact x3 k _ _
        obtain ⟨ph', p1, p2⟩ := ownCase t o _ hc hne1 _ (.of v) rfl hrc2 (fun b hb' => by have hb2 : v.ownBlock = some b := hb'; show (ph t o).v.ownBlock = some b; rw [h3] at hb2; rw [hv]; cases a' with | none => cases hb2 | some x => exact hb2) hp.symm
        exact ⟨ph', p1, fun u y hy hu => p2 u y (hy t o rfl) hu⟩
    · cases hp
  | ptr t o => cases hp
  | eptr t o k => cases hp
  | mem cells off =>
    simp only [Option.some.injEq] at hp
    obtain ⟨ph', h1, h2⟩ := fin st.r (.st (.mem cells off)) (fun _ => false) (.of v) rfl rfl rfl h.heap (by obtain ⟨b, base, vs, q1, q2, q3, q4⟩ := hx; show CRep w S v _; rw [q1]; exact .mem vs q2 q3 q4) (fun b he => he.elim) (fun _ _ _ h => h) (fun _ _ _ h => h) (fun t row h1 => ⟨row, h1, rfl⟩) (fun t row h1 => ⟨row, h1, rfl⟩) (fun _ _ => .inl rfl)
      (by rw [← hp]; simp only [kill]; congr 1; exact (map_id' _).symm)
    exact ⟨ph', h1, fun u y _ hu => h2 u y rfl hu⟩
  | fn f caps => cases hp
  | bfn f t => cases hp
  | tv t o p =>
    cases p with
    | cons _ _ => cases hp
    | nil =>
      dsimp only at hp
      split at hp
      · rename_i sh c ho
        split at hp
        · cases hp
        · rename_i hne
          simp only [Option.some.injEq] at hp
          obtain ⟨sh', c', hh', q, hc, hv, _, _, _, hv2⟩ := hx
          rw [Pv.get_nil] at hv; cases hv
          have hc2 := treeAt_eq ho
          obtain ⟨ph', h1, h2⟩ := ownCase t o _ hc2 hne (.tree sh c none) (ph t o) hv2.symm (h.heap.cell hc2) (fun b hb' => hb') hp.symm
          exact ⟨ph', h1, fun u y hy hu => h2 u y (hy t o rfl) hu⟩
      · cases hp
  | tp t o p k off => cases hp
  | undef => cases hp

theorem pushAll_sound : ∀ (xs : List X) (vs : List Value) (st : St) (ph : Nat → Nat → Pv), Rel T w0 S0 F st a w S bx ph → (∀ row, st.r.getD st.s.length .none ≠ .box row) →
    vs.length = xs.length → (∀ k (h : k < xs.length) (h2 : k < vs.length), XRep T w S st.r bx ph vs[k] xs[k]) → pushAll T (std P T) st xs = some st' →
    ∃ ph', Pushed T w0 S0 F st st' a w S bx ph ph' vs := by
  intro xs
  induction xs with
  | nil =>
    intro vs st ph h hb hl _ hp
    have : vs = [] := List.eq_nil_of_length_eq_zero hl
    subst this
    simp only [pushAll, Option.some.injEq] at hp
    subst hp
    exact ⟨ph, h, rfl, ⟨[], rfl, by simp⟩, hb, fun k hk => absurd hk (by simp), fun _ _ => rfl, fun t row h => ⟨row, h, rfl⟩, fun t row _ h => ⟨row, h, rfl⟩, fun _ _ _ => rfl, fun _ _ _ => .inl rfl⟩
  | cons x xs ih =>
    intro vs st ph h hb hl hx hp
    cases vs with
    | nil => simp at hl
    | cons v vs =>
      unfold pushAll at hp
      split at hp
      · cases hp
      · rename_i hdist
        split at hp
        · rename_i st1 hp1
          obtain ⟨ph1, q, hq⟩ := push_sound h hb (hx 0 (by simp) (by simp)) hp1
          have hl' : vs.length = xs.length := by simpa using hl
          obtain ⟨ph2, q2⟩ := ih vs st1 ph1 q.rel (by rw [q.len]; exact q.loose) hl' (fun k hk hk2 => by
            have := hx (k + 1) (by simp; omega) (by simp; omega)
            refine hq _ _ (fun t o hc => ?_) (by simpa using this)
            have hc : cellOf x = some (t, o) := hc
            cases hoc : ofCell t o xs[k] with
            | false => rfl
            | true =>
              unfold clash at hdist
              rw [hc] at hdist
              exact absurd (List.any_eq_true.2 ⟨_, List.getElem_mem hk, hoc⟩) hdist) hp
          have e1 : (st1.r.getD st.s.length .none).row.length = (st.r.getD st.s.length .none).row.length + 1 := by
            obtain ⟨rcs, r1, r2⟩ := q.row
            rw [r2, List.length_append, r1]; rfl
          refine ⟨ph2, q2.rel, q2.len.trans q.len, ?_, ?_, ?_, ?_, ?_, ?_, fun t o hne => (q2.phs t o (by rw [q.len]; exact hne)).trans (q.phs t o hne), fun t o hne => ?_⟩
          · obtain ⟨rcs, r1, r2⟩ := q.row
            obtain ⟨rcs2, r3, r4⟩ := q2.row
            rw [q.len] at r4
            exact ⟨rcs ++ rcs2, by simp [r1, r3]; omega, by rw [r4, r2, List.append_assoc]⟩
          · have := q2.loose; rw [q.len] at this; exact this
          · intro k hk
            cases k with
            | zero =>
              have h1 := q2.old (st.r.getD st.s.length .none).row.length
              rw [q.len] at h1
              have h2 := q.vals 0 (by simp)
              simp only [Nat.add_zero] at h2 ⊢
              rw [h1 (by omega), h2]
              rfl
            | succ k =>
              have h1 := q2.vals k (by simpa using hk)
              rw [q.len, e1] at h1
              rw [show (st.r.getD st.s.length .none).row.length + (k + 1) = (st.r.getD st.s.length .none).row.length + 1 + k by omega, h1]
              rfl
          · intro k hk
            have h1 := q2.old k
            rw [q.len] at h1
            rw [h1 (by omega), q.old k hk]
          · intro t row h1
            obtain ⟨row1, a1, b1⟩ := q.boxes t row h1
            obtain ⟨row2, a2, b2⟩ := q2.boxes t row1 a1
            exact ⟨row2, a2, by omega⟩
          · intro t row hne h1
            obtain ⟨row1, a1, b1⟩ := q2.back t row (by rw [q.len]; exact hne) h1
            obtain ⟨row2, a2, b2⟩ := q.back t row1 hne a1
            exact ⟨row2, a2, by omega⟩
          · rcases q2.same t o (by rw [q.len]; exact hne) with h1 | h1
            · rw [h1]; exact q.same t o hne
            · exact .inr h1
        · cases hp
end Go.Proofs.Ytdmdcmhgfgookaa.A
