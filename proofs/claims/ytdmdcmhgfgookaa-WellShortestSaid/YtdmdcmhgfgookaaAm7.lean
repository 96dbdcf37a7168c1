/- The ghost machine, part 7: freezing and naming are sound. -/
import Derived.Test.YtdmdcmhgfgookaaAm6
set_option linter.unusedSimpArgs false
set_option linter.unusedVariables false
set_option maxRecDepth 100000
set_option maxHeartbeats 4000000
namespace Go.Proofs.Ytdmdcmhgfgookaa.A
open Go
variable {P : Program} {T : TT} {w w0 : World} {S S0 : Nat → Prop} {F : Fr} {bx : Nat → Nat} {ph : Nat → Nat → Pv} {a : Act} {st st' : St}

theorem owns_setst {r : List Root} {t o u : Nat} {κ : Option Nat} {b : Nat} {c : C} (h : owns (setCellR r t o (.st c)) bx ph u κ b) : owns r bx ph u κ b ∧ ¬ (u = t ∧ κ = some o) := by
  cases κ with
  | none =>
    obtain ⟨row, h1, rfl⟩ := owns_box h
    rw [getD_setCell] at h1
    refine ⟨?_, by simp⟩
    split at h1
    · rename_i e; subst e
      cases hR : r.getD t .none with
      | box row' => exact owns_of_box hR
      | none => rw [hR] at h1; cases h1
      | loose row' => rw [hR] at h1; cases h1
    · exact owns_of_box h1
  | some p =>
    obtain ⟨rc, h1, h2⟩ := owns_cell h
    rw [row_setCell] at h1
    split at h1
    · rename_i e; subst e
      rw [List.getElem?_set] at h1
      split at h1
      · split at h1 <;> cases h1
        cases h2
      · rename_i hne
        refine ⟨own_blk h1 h2, fun hh => hne ?_⟩
        have := hh.2; simp at this; exact this.symm
    · rename_i hne
      exact ⟨own_blk h1 h2, fun hh => hne hh.1.symm⟩

/-- a slice that owns its block, taken for one that nobody changes -/
theorem RCRep.still {e : TypeId} {n : Nat} {cells : List C} {pv : Pv} (h : RCRep T w S pv (.own e n cells)) : CRep w (fun b => S b ∨ pv.v.ownBlock = some b) pv.v (.sl n cells) := by
  obtain ⟨xs, h1, h2, h3⟩ := h
  generalize pv.v = v at h1 ⊢
  rcases h1.2 with ⟨rfl, rfl⟩ | ⟨g, cap, cur, rfl, hB, hheap, hn, hc, hs, ht⟩
  · have : cells = [] := List.eq_nil_of_length_eq_zero (by rw [← h2, h1.1]; simp)
    subst this
    exact .sl0
  · have h3' : ∀ k (hk : k < cells.length), CRep w (fun b => S b ∨ (Value.slice (some ⟨g, 0, none⟩) n cap).ownBlock = some b) (xs.getD k undef) cells[k] := fun k hk => by
      have hk2 : k < xs.length := by omega
      rw [List.getD_eq_getElem?_getD, List.getElem?_eq_getElem hk2]
      exact (h3 k hk hk2).frame (fun _ _ => rfl) (fun _ h => .inl h)
    refine .sl (fun k => xs.getD k undef) (.inr rfl) hn (fun k hk => ?_) h3'
    have hk2 : k < xs.length := by omega
    rw [Nat.zero_add, List.getD_eq_getElem?_getD, List.getElem?_eq_getElem hk2]
    have hcur : cur[k]? = some xs[k] := by
      have h5 : (cur.toList.take (n * szOf T e))[k]? = some xs[k] := by rw [ht, List.getElem?_eq_getElem hk2]
      rw [List.getElem?_take] at h5
      split at h5
      · simpa using h5
      · cases h5
    simp [World.cell?, hheap, hcur]
theorem extC_get {cells : List C} {lo hi k : Nat} (h : k < (extC cells lo hi).length) : ∃ h2 : lo + k < cells.length, (extC cells lo hi)[k] = cells[lo + k] := by
  have h' : lo + k < cells.length := by simp [extC] at h; omega
  exact ⟨h', by simp [extC]⟩
theorem crep_sub {n : Nat} {cells : List C} {S' : Nat → Prop} {aa a' : Option Addr} {cap cap' lo hi sz : Nat} (h : CRep w S' (.slice aa n cap) (.sl n cells))
    (h1 : hi ≤ n) (hcap : hi - lo ≤ cap') (hsz : lo < hi → ∃ b off, aa = some ⟨b, off, none⟩ ∧ a' = some ⟨b, off + lo * sz, none⟩) :
    CRep w S' (.slice a' (hi - lo) cap') (.sl (hi - lo) (extC cells (lo * sz) (hi * sz))) := by
  by_cases hlt : lo < hi
  · obtain ⟨g, off, rfl, rfl⟩ := hsz hlt
    cases h with
    | sl0 => omega
    | sl vs hS hn hc hr =>
      refine .sl (fun k => vs (lo * sz + k)) hS hcap (fun k hk => ?_) (fun k hk => ?_)
      · obtain ⟨h2, _⟩ := extC_get hk
        rw [Nat.add_assoc]; exact hc _ h2
      · obtain ⟨h2, h3⟩ := extC_get hk
        rw [h3]; exact hr _ h2
  · have e : hi - lo = 0 := by omega
    have e2 : extC cells (lo * sz) (hi * sz) = [] := by
      have : hi * sz ≤ lo * sz := Nat.mul_le_mul_right _ (by omega)
      apply List.eq_nil_of_length_eq_zero
      simp [extC]; omega
    rw [e, e2]
    exact .sl0

theorem hcapof {n : Nat} {cells : List C} {S' : Nat → Prop} {aa : Option Addr} {cap lo hi : Nat} (h : CRep w S' (.slice aa n cap) (.sl n cells)) (h1 : hi ≤ n) : hi - lo ≤ cap - lo := by
  cases h with
  | sl0 => omega
  | sl vs hS hn hc hr => omega
/-- what is read in the place of what a cell owns, once nobody changes it any more -/
def RC.frz : RC → Option C
  | .own _ n cells => some (.sl n cells)
  | .map kk m => some (.map kk m.ks m.vs)
  | .tree _ c none => some (.sl (gn c) (gc c))
  | _ => none
theorem RCRep.stillC {rc : RC} {c : C} {v : Pv} (h : RCRep T w S v rc) (hc : rc.frz = some c) : CRep w (fun b => S b ∨ rc.blk v b) v.v c := by
  cases rc with
  | st => cases hc
  | dead => cases hc
  | me f => cases hc
  | own e n cells => cases hc; exact RCRep.still h
  | map kk m =>
    cases hc
    obtain ⟨b, hv, es, h1, h2, h3, h4, h5⟩ := h
    have hbk : ownB v.v = some b := by rw [hv]; rfl
    rw [hv]
    have hl : es.size = m.ks.length := by rw [← h2]; simp
    refine .map (fun i => (es.getD i default).val) (.inr hbk) h1 h2 m.l1 (fun i hi => by simp [hi]) (fun i hi => ?_) h5
    have hi2 : i < es.size := by rw [hl, ← m.l1]; exact hi
    have := (h4 i hi2 hi).frame (w' := w) (S' := fun b' => S b' ∨ RC.blk (.map kk m) v b') (fun _ _ => rfl) (fun _ h => .inl h)
    simpa [hi2] using this
  | tree sh c' hp =>
    cases hp with
    | some p => cases hc
    | none =>
      cases hc
      obtain ⟨h1, _, ⟨e, ks, rfl⟩, _⟩ := h
      exact CRepT.stillN h1
/-- r' is r, but that some cells that owned are frozen -/
def Frz (r r' : List Root) : Prop := ∀ t o : Nat, (r'.getD t .none).row[o]? = (r.getD t .none).row[o]? ∨ ∃ rc c, (r.getD t .none).row[o]? = some rc ∧ rc.frz = some c ∧ (r'.getD t .none).row[o]? = some (RC.st c)
structure Frozen (T : TT) (w0 : World) (S0 : Nat → Prop) (F : Fr) (st st' : St) (a : Act) (w : World) (S S' : Nat → Prop) (bx : Nat → Nat) (ph : Nat → Nat → Pv) : Prop where
  rel : Rel T w0 S0 F st' a w S' bx ph
  len : st'.s.length = st.s.length
  keep : ∀ b, S b → S' b
  frz : Frz st.r st'.r
  boxes : ∀ t row, st.r.getD t .none = .box row → ∃ row', st'.r.getD t .none = .box row' ∧ row'.length = row.length
  back : ∀ t row, st'.r.getD t .none = .box row → ∃ row', st.r.getD t .none = .box row' ∧ row'.length = row.length
  spare : ∀ t, st.r.getD t .none = .none → st'.r.getD t .none = .none
theorem Frozen.refl (h : Rel T w0 S0 F st a w S bx ph) : Frozen T w0 S0 F st st a w S S bx ph :=
  ⟨h, rfl, fun _ h => h, fun _ _ => .inl rfl, fun t row h => ⟨row, h, rfl⟩, fun t row h => ⟨row, h, rfl⟩, fun _ h => h⟩
theorem Frozen.trans {st2 : St} {S2 S3 : Nat → Prop} (h : Frozen T w0 S0 F st st' a w S S2 bx ph) (k : Frozen T w0 S0 F st' st2 a w S2 S3 bx ph) : Frozen T w0 S0 F st st2 a w S S3 bx ph := by
  refine ⟨k.rel, k.len.trans h.len, fun b hb => k.keep b (h.keep b hb), fun t o => ?_, fun t row h1 => ?_, fun t row h1 => ?_, fun t h1 => k.spare t (h.spare t h1)⟩
  · rcases h.frz t o with h1 | ⟨rc, c, h1, h1c, h2⟩
    · rcases k.frz t o with h3 | ⟨rc, c, h3, h3c, h4⟩
      · exact .inl (h3.trans h1)
      · exact .inr ⟨rc, c, h1 ▸ h3, h3c, h4⟩
    · rcases k.frz t o with h3 | ⟨rc', c', h3, h3c, h4⟩
      · exact .inr ⟨rc, c, h1, h1c, h3.trans h2⟩
      · rw [h2] at h3; cases h3; cases h3c
  · obtain ⟨row1, a1, b1⟩ := h.boxes t row h1
    obtain ⟨row2, a2, b2⟩ := k.boxes t row1 a1
    exact ⟨row2, a2, by omega⟩
  · obtain ⟨row1, a1, b1⟩ := k.back t row h1
    obtain ⟨row2, a2, b2⟩ := h.back t row1 a1
    exact ⟨row2, a2, by omega⟩

theorem ofCell_cases {t o : Nat} {y : X} (h : ofCell t o y = true) : y = .view t o ∨ (∃ lo hi, y = .sub t o lo hi) ∨ (∃ k, y = .eptr t o k) ∨ y = .mv t o ∨ (∃ p, y = .tv t o p) ∨ ∃ p k off, y = .tp t o p k off := by
  cases y <;> simp [ofCell] at h
  · exact .inl (by rw [h.1, h.2])
  · exact .inr (.inr (.inr (.inl (by rw [h.1, h.2]))))
  · exact .inr (.inl ⟨_, _, by rw [h.1, h.2]⟩)
  · exact .inr (.inr (.inl ⟨_, by rw [h.1, h.2]⟩))
  · exact .inr (.inr (.inr (.inr (.inl ⟨_, by rw [h.1, h.2]⟩))))
  · exact .inr (.inr (.inr (.inr (.inr ⟨_, _, _, by rw [h.1, h.2]⟩))))

theorem freeze_gen (h : Rel T w0 S0 F st a w S bx ph) {t o : Nat} {rc : RC} {c : C} (hc : (st.r.getD t .none).row[o]? = some rc) (hz : rc.frz = some c) (g : X → X) (hg0 : ∀ y, ofCell t o y = false → g y = y)
    (hg1 : ∀ u y, ofCell t o y = true → XRep T w S st.r bx ph u y → XRep T w (fun b => S b ∨ rc.blk (ph t o) b) (setCellR st.r t o (.st c)) bx ph u (g y)) :
    ∃ S', Frozen T w0 S0 F st { s := st.s.map (mapV g), r := setCellR st.r t o (.st c) } a w S S' bx ph ∧ (((setCellR st.r t o (.st c)).getD t .none).row[o]? = some (.st c)) := by
  have hrc := h.heap.cell hc
  have hcr := hrc.stillC hz
  have hin : o < (st.r.getD t .none).row.length := (List.getElem?_eq_some_iff.1 hc).1
  have hnew : ∀ b, rc.blk (ph t o) b → owns st.r bx ph t (some o) b := fun b hb => own_blk hc hb
  have hS' : ∀ u κ b, owns (setCellR st.r t o (.st c)) bx ph u κ b → ¬ (S b ∨ rc.blk (ph t o) b) := fun u κ b hb hs => by
    obtain ⟨h1, h2⟩ := owns_setst hb
    rcases hs with hs | hs
    · exact (h.heap.free u κ b h1).1 hs
    · exact h2 (h.heap.inj _ _ _ _ b h1 (hnew b hs))
  have hroot : ∀ u, RootRep T w (fun b => S b ∨ rc.blk (ph t o) b) (bx u) (ph u) (st.r.getD u .none) := fun u => by
    have hr := h.heap.root u
    cases hR : st.r.getD u .none with
    | none => trivial
    | box row =>
      rw [hR] at hr
      exact ⟨hr.1, fun o ho => (hr.2.1 o ho).frame (fun _ _ => rfl) (fun _ h => .inl h) (fun _ _ => rfl), hr.2.2⟩
    | loose row =>
      rw [hR] at hr
      exact fun o ho => (hr o ho).frame (fun _ _ => rfl) (fun _ h => .inl h) (fun _ _ => rfl)
  have hheap : Heap T w (fun b => S b ∨ rc.blk (ph t o) b) (setCellR st.r t o (.st c)) bx ph := by
    refine ⟨fun u => ?_, fun u κ u' κ' b h1 h2 => h.heap.inj u κ u' κ' b (owns_setst h1).1 (owns_setst h2).1, fun u κ b h1 => ⟨hS' u κ b h1, (h.heap.free u κ b (owns_setst h1).1).2⟩, ⟨fun b hb => ?_, h.heap.low.2.frame (fun _ _ => rfl) (fun _ h => .inl h)⟩⟩
    · rw [getD_setCell]; split
      · rename_i e; subst e; exact (hroot t).setCell (fun _ => hcr) rfl
      · exact hroot u
    · rcases hb with hb | hb
      · exact h.heap.low.1 b hb
      · exact (h.heap.free t (some o) b (hnew b hb)).2
  refine ⟨fun b => S b ∨ rc.blk (ph t o) b, ⟨?_, by simp, fun _ h => .inl h, fun u p => ?_, fun u row h1 => box_setCell h1, fun u row h1 => ?_, fun u h1 => ?_⟩, ?_⟩
  · refine h.ghost g rfl (by simp [length_setCell]) hheap (fun u κ b hb => ⟨u, κ, (owns_setst hb).1⟩) (fun u y hu => ?_) (fun _ h => .inl h) (fun b hb => ?_)
    · cases hoc : ofCell t o y with
      | true => exact hg1 u y hoc hu
      | false =>
        rw [hg0 y hoc]
        refine (hu.frame (w' := w) (fun _ _ => rfl) (fun _ h => .inl h)).congr (fun t' o' rc' ho' _ hc' => ⟨?_, rfl⟩) (fun t' o' _ row h1 h2 => ?_) (fun f caps _ t' _ row h1 => ?_)
        · rw [row_setCell]
          split
          · rename_i e; subst e
            rw [List.getElem?_set]
            split
            · rename_i e; subst e; rw [ho'] at hoc; cases hoc
            · exact hc'
          · exact hc'
        · obtain ⟨row', q1, q2⟩ := box_setCell (t := t) (o := o) (rc := .st c) h1
          exact ⟨row', q1, by omega, rfl⟩
        · obtain ⟨row', q1, q2⟩ := box_setCell (t := t) (o := o) (rc := .st c) h1
          exact ⟨row', q1, q2, rfl⟩
    · rcases hb with hb | hb
      · exact .inl hb
      · exact .inr ⟨t, some o, hnew b hb⟩
  · rw [row_setCell]
    split
    · rename_i e1; subst e1
      rw [List.getElem?_set]
      split
      · rename_i e2; subst e2
        exact .inr ⟨rc, c, hc, hz, by simp [hin]⟩
      · exact .inl rfl
    · exact .inl rfl
  · rw [getD_setCell] at h1
    split at h1
    · rename_i e1; subst e1
      cases hR : st.r.getD t .none with
      | none => rw [hR] at h1; cases h1
      | loose row' => rw [hR] at h1; cases h1
      | box row' => rw [hR] at h1; cases h1; exact ⟨row', rfl, by simp [Root.row]⟩
    · exact ⟨row, h1, rfl⟩
  · rw [getD_setCell]
    split
    · rename_i e1; subst e1; rw [h1]; rfl
    · exact h1
  · rw [row_setCell, if_pos rfl, List.getElem?_set, if_pos rfl, if_pos hin]

theorem freeze_sound (h : Rel T w0 S0 F st a w S bx ph) (t o : Nat) : ∃ S', Frozen T w0 S0 F st (freeze T (std P T) st t o) a w S S' bx ph ∧
    (∀ rc c, (st.r.getD t .none).row[o]? = some rc → rc.frz = some c → ((freeze T (std P T) st t o).r.getD t .none).row[o]? = some (.st c)) := by
  unfold freeze
  cases ho : ownAt st.r t o with
  | none =>
    dsimp only
    cases hm : mapAt st.r t o with
    | none =>
      dsimp only
      cases ht : treeAt st.r t o with
      | none =>
        refine ⟨S, Frozen.refl h, fun rc c hc hz => ?_⟩
        cases rc with
        | st => cases hz
        | dead => cases hz
        | me f => cases hz
        | own e n cells => simp only [ownAt, rootOf, hc] at ho; cases ho
        | map kk m => simp only [mapAt, rootOf, hc] at hm; cases hm
        | tree sh c hp => simp only [treeAt, rootOf, hc] at ht; cases ht
      | some x =>
        obtain ⟨sh, c, hp⟩ := x
        have hc := treeAt_eq ht
        cases hp with
        | some p =>
          refine ⟨S, Frozen.refl h, fun rc c hc' hz => ?_⟩
          rw [hc] at hc'; cases hc'; cases hz
        | none =>
          dsimp only
          rw [slJ_std]
          obtain ⟨S', q1, q2⟩ := freeze_gen h hc rfl (frzT (std P T) t o c) (fun y hy => by unfold frzT; rw [hy]; rfl) (fun u y hy hu => by
            unfold frzT
            rw [hy]
            rcases ofCell_cases hy with rfl | ⟨lo, hi, rfl⟩ | ⟨k, rfl⟩ | rfl | ⟨p, rfl⟩ | ⟨p, k, off, rfl⟩ <;> simp only [if_true]
            · trivial
            · trivial
            · trivial
            · trivial
            · obtain ⟨sh', c', hp', q, k1, k2, k3, ⟨e, ks, k4⟩, k5, rfl⟩ := hu
              rw [hc] at k1; cases k1
              obtain ⟨t1, t2, _, _⟩ := h.heap.cell hc
              obtain ⟨hp2, u2, g1, g2, _⟩ := CRepT.get p t1 k2 k3
              have g3 := g2 rfl
              subst g3
              rw [k4] at g1
              have g4 := g1.stillN
              rw [g1.val] at g4
              rw [slJ_std, atJ_std]
              exact g4.frame (w' := w) (fun _ _ => rfl) (fun b hb => hb.imp id fun hb => Pv.get_blks p k2 b hb)
            · trivial)
          refine ⟨S', q1, fun rc c hc' hz => ?_⟩
          rw [hc] at hc'; cases hc'; cases hz
          exact q2
    | some x =>
      obtain ⟨kk, m⟩ := x
      have hc := mapAt_eq hm
      dsimp only
      obtain ⟨S', q1, q2⟩ := freeze_gen h hc rfl (frzM t o kk m) (fun y hy => by unfold frzM; rw [hy]; rfl) (fun u y hy hu => by
        unfold frzM
        rw [hy]
        rcases ofCell_cases hy with rfl | ⟨lo, hi, rfl⟩ | ⟨k, rfl⟩ | rfl | ⟨p, rfl⟩ | ⟨p, k, off, rfl⟩ <;> simp only [if_true]
        · trivial
        · trivial
        · trivial
        · obtain ⟨kk', m', h1, h2⟩ := hu
          rw [h2]; exact (h.heap.cell hc).stillC rfl
        · trivial
        · trivial)
      refine ⟨S', q1, fun rc c hc' hz => ?_⟩
      rw [hc] at hc'; cases hc'; cases hz
      exact q2
  | some x =>
    obtain ⟨e, n, cells⟩ := x
    have hc := ownAt_eq ho
    have hcr := (h.heap.cell hc).stillC rfl
    dsimp only
    obtain ⟨S', q1, q2⟩ := freeze_gen h hc rfl (frzX (std P T) (szOf T e) t o n cells) (fun y hy => by unfold frzX; rw [hy]; rfl) (fun u y hy hu => by
      unfold frzX
      rw [if_pos hy]
      rcases ofCell_cases hy with rfl | ⟨lo, hi, rfl⟩ | ⟨k, rfl⟩ | rfl | ⟨p, rfl⟩ | ⟨p, k, off, rfl⟩
      · obtain ⟨e', n', cells', h1, h2⟩ := hu
        rw [h2]; exact hcr
      · obtain ⟨e', n', cells', aa, cap, a', h1, h2, h3, h4, h5, h6, h7⟩ := hu
        rw [hc] at h1; cases h1
        have hcr' := hcr
        rw [h2] at hcr'
        dsimp only
        rw [mulSz_std, mulSz_std, h5]
        have := crep_sub (w := w) (a' := a') (cap' := cap - lo) (lo := lo) (hi := hi) (sz := szOf T e) hcr' h4 (hcapof hcr' h4) (fun hlt => by
          obtain ⟨g, g1, g2⟩ := h7 hlt
          exact ⟨g, 0, g1, by rw [g2, Nat.zero_add]⟩)
        have e1 : (if lo = 0 then hi else (std P T).sub hi lo) = hi - lo := by
          split
          · omega
          · rfl
        rw [e1]
        exact this.frame (w' := w) (fun _ _ => rfl) (fun b hb => hb)
      · obtain ⟨e', n', cells', g, cap, h1, h2, h3⟩ := hu
        rw [hc] at h1; cases h1
        have hcr' := hcr
        rw [h2] at hcr'
        cases hcr' with
        | sl0 => exact ⟨g, 0, fun _ => undef, by rw [h3, Nat.zero_add], .inr (by show (ph t o).v.ownBlock = some g; rw [h2]; rfl), fun k hk => absurd hk (by simp), fun k hk => absurd hk (by simp)⟩
        | sl vs q1 q0 q2 q3 =>
          refine ⟨g, 0, vs, by rw [h3, Nat.zero_add], .inr (by show (ph t o).v.ownBlock = some g; rw [h2]; rfl), q2, fun k hk => ?_⟩
          exact (q3 k hk).frame (fun _ _ => rfl) (fun b hb => hb)
      · obtain ⟨kk', m', h1, h2⟩ := hu
        rw [hc] at h1; cases h1
      · obtain ⟨_, _, _, _, h1, _⟩ := hu
        rw [hc] at h1; cases h1
      · obtain ⟨_, _, _, _, _, _, _, _, _, h1, _⟩ := hu
        rw [hc] at h1; cases h1)
    refine ⟨S', q1, fun rc c hc' hz => ?_⟩
    rw [hc] at hc'; cases hc'; cases hz
    exact q2

theorem stab_frozen {r r' : List Root} {S' : Nat → Prop} {u : Value} {y : X} {c : C} (h0 : Heap T w S r bx ph) (h : Heap T w S' r' bx ph) (hk : ∀ b, S b → S' b) (hu : XRep T w S r bx ph u y) (hs : stab T (std P T) r y = some c)
    (hf : ∀ t o, cellOf y = some (t, o) → ∀ rc c, (r.getD t .none).row[o]? = some rc → rc.frz = some c → (r'.getD t .none).row[o]? = some (.st c)) : CRep w S' u c := by
  cases y with
  | c c' => simp only [stab, Option.some.injEq] at hs; subst hs; exact CRep.frame hu (fun _ _ => rfl) hk
  | view t o =>
    obtain ⟨e, n, cells, h1, h2⟩ := hu
    simp only [stab, rootOf, h1, Option.some.injEq] at hs
    subst hs; rw [h2]
    exact h.cell (hf t o rfl _ _ h1 rfl)
  | sub t o lo hi =>
    obtain ⟨e, n, cells, aa, cap, a', h1, h2, h3, h4, h5, h6, h7⟩ := hu
    simp only [stab, rootOf, h1, Option.some.injEq, mulSz_std] at hs
    subst hs
    have hcr : CRep w S' (ph t o) (.sl n cells) := h.cell (hf t o rfl _ _ h1 rfl)
    rw [h2] at hcr
    have e1 : (if lo = 0 then hi else (std P T).sub hi lo) = hi - lo := by
      split
      · omega
      · rfl
    rw [e1, h5]
    exact crep_sub hcr h4 (hcapof hcr h4) (fun hlt => by
      obtain ⟨g, g1, g2⟩ := h7 hlt
      exact ⟨g, 0, g1, by rw [g2, Nat.zero_add]⟩)
  | mv t o =>
    obtain ⟨kk, m, h1, h2⟩ := hu
    simp only [stab, rootOf, h1, Option.some.injEq] at hs
    subst hs; rw [h2]
    exact h.cell (hf t o rfl _ _ h1 rfl)
  | ptr t o => cases hs
  | eptr t o k => cases hs
  | tp t o p k off => cases hs
  | tv t o p =>
    obtain ⟨sh, c', hp, q, h1, h2, h3, h4, h5, rfl⟩ := hu
    simp only [stab, treeAt, rootOf, h1] at hs
    cases hp with
    | some hp => cases hs
    | none =>
      simp only [Option.some.injEq] at hs
      subst hs
      rw [slJ_std, atJ_std]
      obtain ⟨t1, _, _, _⟩ := h0.cell h1
      have hcr : CRep w S' (ph t o).v (.sl (gn c') (gc c')) := h.cell (hf t o rfl _ _ h1 rfl)
      exact t1.down p hcr h2 h3 h4
  | mem cells off =>
    simp only [stab, Option.some.injEq] at hs
    subst hs
    obtain ⟨b, base, vs, h1, h2, h3, h4⟩ := hu
    rw [h1]
    exact .mem vs (hk _ h2) h3 (fun k hk' => (h4 k hk').frame (fun _ _ => rfl) hk)
  | fn f caps => cases hs
  | bfn f t => cases hs
  | undef => cases hs

theorem freezeX_sound (h : Rel T w0 S0 F st a w S bx ph) (x : X) : ∃ S', Frozen T w0 S0 F st (freezeX T (std P T) st x) a w S S' bx ph ∧
    (∀ t o, cellOf x = some (t, o) → ∀ rc c, (st.r.getD t .none).row[o]? = some rc → rc.frz = some c → ((freezeX T (std P T) st x).r.getD t .none).row[o]? = some (.st c)) := by
  cases x with
  | view t o =>
    obtain ⟨S', h1, h2⟩ := freeze_sound (P := P) h t o
    exact ⟨S', h1, fun t' o' he => by cases he; exact h2⟩
  | sub t o lo hi =>
    obtain ⟨S', h1, h2⟩ := freeze_sound (P := P) h t o
    exact ⟨S', h1, fun t' o' he => by cases he; exact h2⟩
  | tv t o p =>
    obtain ⟨S', h1, h2⟩ := freeze_sound (P := P) h t o
    exact ⟨S', h1, fun t' o' he => by cases he; exact h2⟩
  | tp t o p k off => exact ⟨S, Frozen.refl h, fun t o he => by cases he⟩
  | mv t o =>
    obtain ⟨S', h1, h2⟩ := freeze_sound (P := P) h t o
    exact ⟨S', h1, fun t' o' he => by cases he; exact h2⟩
  | c c => exact ⟨S, Frozen.refl h, fun t o he => by cases he⟩
  | ptr t o => exact ⟨S, Frozen.refl h, fun t o he => by cases he⟩
  | eptr t o k => exact ⟨S, Frozen.refl h, fun t o he => by cases he⟩
  | mem cells off => exact ⟨S, Frozen.refl h, fun t o he => by cases he⟩
  | fn f caps => exact ⟨S, Frozen.refl h, fun t o he => by cases he⟩
  | bfn f t => exact ⟨S, Frozen.refl h, fun t o he => by cases he⟩
  | undef => exact ⟨S, Frozen.refl h, fun t o he => by cases he⟩

theorem freezeAll_frz : ∀ (xs : List X) (st : St) (S : Nat → Prop), Rel T w0 S0 F st a w S bx ph → ∃ S', Frozen T w0 S0 F st (xs.foldl (freezeX T (std P T)) st) a w S S' bx ph ∧
    ∀ y ∈ xs, ∀ t o, cellOf y = some (t, o) → ∀ rc c, (st.r.getD t .none).row[o]? = some rc → rc.frz = some c → ((xs.foldl (freezeX T (std P T)) st).r.getD t .none).row[o]? = some (.st c) := by
  intro xs
  induction xs with
  | nil => intro st S h; exact ⟨S, Frozen.refl h, fun y hy => absurd hy (by simp)⟩
  | cons x xs ih =>
    intro st S h
    obtain ⟨S1, h1, h2⟩ := freezeX_sound (P := P) h x
    obtain ⟨S2, h3, h4⟩ := ih _ S1 h1.rel
    refine ⟨S2, h1.trans h3, fun y hy t o hc rc c hr hz => ?_⟩
    have fin : ((freezeX T (std P T) st x).r.getD t .none).row[o]? = some (.st c) → ((xs.foldl (freezeX T (std P T)) (freezeX T (std P T) st x)).r.getD t .none).row[o]? = some (.st c) := fun hh => by
      rcases h3.frz t o with h5 | ⟨rc', c', h5, h5c, h6⟩
      · exact h5.trans hh
      · rw [hh] at h5; cases h5; cases h5c
    rcases List.mem_cons.1 hy with rfl | hy
    · exact fin (h2 t o hc rc c hr hz)
    · rcases h1.frz t o with h5 | ⟨rc', c', h5, h5c, h6⟩
      · exact h4 y hy t o hc rc c (h5.trans hr) hz
      · rw [hr] at h5; cases h5; rw [hz] at h5c; cases h5c; exact fin h6
theorem freezeAll_sound (xs : List X) (h : Rel T w0 S0 F st a w S bx ph) : ∃ S', Frozen T w0 S0 F st (xs.foldl (freezeX T (std P T)) st) a w S S' bx ph ∧
    ∀ y ∈ xs, ∀ u c, XRep T w S st.r bx ph u y → stab T (std P T) st.r y = some c → CRep w S' u c := by
  obtain ⟨S', h1, h2⟩ := freezeAll_frz (P := P) xs st S h
  exact ⟨S', h1, fun y hy u c hu hs => stab_frozen h.heap h1.rel.heap h1.keep hu hs (h2 y hy)⟩

/-! ### naming the root of the moment -/
theorem name_rel (h : Rel T w0 S0 F st a w S bx ph) {d : Nat} (hd : d < st.s.length) :
    Rel T w0 S0 F (name st d) a w S (fun t => if t = d then bx st.s.length else bx t) (fun t => if t = d then ph st.s.length else ph t) ∧ (name st d).r.getD st.s.length .none = .none ∧ (name st d).r.getD d .none = st.r.getD st.s.length .none := by
  have hN : st.s.length < st.r.length := by have := h.rsize.1; omega
  have hg : ∀ u, (name st d).r.getD u .none = if u = st.s.length then .none else if u = d then st.r.getD st.s.length .none else st.r.getD u .none := fun u => by
    simp only [name, rootOf]
    rw [getD_set, getD_set]
    simp only [List.length_set]
    by_cases h1 : u = st.s.length
    · subst h1; simp [hN]
    · rw [if_neg (fun hh => h1 hh.1.symm), if_neg h1]
      by_cases h2 : u = d
      · subst h2; rw [if_pos ⟨rfl, by omega⟩, if_pos rfl]
      · rw [if_neg (fun hh => h2 hh.1.symm), if_neg h2]
  have hne : d ≠ st.s.length := by omega
  have hown : ∀ u κ b, owns (name st d).r (fun t => if t = d then bx st.s.length else bx t) (fun t => if t = d then ph st.s.length else ph t) u κ b →
      u ≠ st.s.length ∧ owns st.r bx ph (if u = d then st.s.length else u) κ b := fun u κ b hb => by
    by_cases h1 : u = st.s.length
    · subst h1
      exact (owns_none _ _ _ (by rw [hg, if_pos rfl]) _ _ hb).elim
    · refine ⟨h1, ?_⟩
      unfold owns at hb ⊢
      rw [hg, if_neg h1] at hb
      by_cases h2 : u = d
      · subst h2; simp only [if_pos] at hb ⊢; exact hb
      · simp only [if_neg h2] at hb ⊢; exact hb
  refine ⟨?_, by rw [hg, if_pos rfl], by rw [hg, if_neg hne, if_pos rfl]⟩
  refine h.ghost (fun x => if (ofRoot d x || ofRoot st.s.length x) = true then .undef else x) rfl (by simp [name]) ⟨fun u => ?_, fun u κ u' κ' b h1 h2 => ?_, fun u κ b h1 => h.heap.free _ _ b (hown u κ b h1).2, h.heap.low⟩
    (fun u κ b h1 => ⟨_, _, (hown u κ b h1).2⟩) (fun v x hx => ?_) (fun _ h => h) (fun _ h => .inl h) (fun t ht => if_neg (by omega))
  · rw [hg]
    by_cases h1 : u = st.s.length
    · rw [if_pos h1]; trivial
    · rw [if_neg h1]
      by_cases h2 : u = d
      · subst h2; simp only [if_pos]; exact h.heap.root _
      · simp only [if_neg h2]; exact h.heap.root _
  · obtain ⟨a1, a2⟩ := hown u κ b h1
    obtain ⟨b1, b2⟩ := hown u' κ' b h2
    obtain ⟨e1, e2⟩ := h.heap.inj _ _ _ _ b a2 b2
    refine ⟨?_, e2⟩
    split at e1 <;> split at e1
    · omega
    · exact absurd e1.symm b1
    · exact absurd e1 a1
    · exact e1
  · split
    · trivial
    · rename_i hk
      have k1 : ofRoot d x = false := by
        cases hh : ofRoot d x with
        | false => rfl
        | true => rw [hh] at hk; simp at hk
      have k2 : ofRoot st.s.length x = false := by
        cases hh : ofRoot st.s.length x with
        | false => rfl
        | true => rw [hh] at hk; simp at hk
      have hcell : ∀ t o, ofCell t o x = true → t ≠ d ∧ t ≠ st.s.length := fun t o hc => by
        rcases ofCell_cases hc with rfl | ⟨lo, hi, rfl⟩ | ⟨k, rfl⟩ | rfl | ⟨p, rfl⟩ | ⟨p, k, off, rfl⟩ <;> (simp only [ofRoot, beq_eq_false_iff_ne] at k1 k2; exact ⟨k1, k2⟩)
      refine hx.congr (fun t o rc hc _ h1 => ?_) (fun t o he row h1 h2 => ?_) (fun f caps he t ht row h1 => ?_)
      · obtain ⟨n1, n2⟩ := hcell t o hc
        refine ⟨?_, by simp only [if_neg n1]⟩
        rw [hg, if_neg n2, if_neg n1]; exact h1
      · subst he
        simp only [ofRoot, beq_eq_false_iff_ne] at k1 k2
        refine ⟨row, ?_, h2, by simp only [if_neg k1]⟩
        rw [hg, if_neg k2, if_neg k1]; exact h1
      · have n1 : t ≠ d := fun e => by subst e; rw [ofRoot_caps he ht] at k1; cases k1
        have n2 : t ≠ st.s.length := fun e => by subst e; rw [ofRoot_caps he ht] at k2; cases k2
        refine ⟨row, ?_, rfl, by simp only [if_neg n1]⟩
        rw [hg, if_neg n2, if_neg n1]; exact h1
end Go.Proofs.Ytdmdcmhgfgookaa.A
