/- The ghost machine, part 5: moving cells between roots, freezing, naming. -/
import Derived.Test.YtdmdcmhgfgookaaAm4t
set_option linter.unusedSimpArgs false
set_option linter.unusedVariables false
set_option maxRecDepth 100000
set_option maxHeartbeats 4000000
namespace Go.Proofs.Ytdmdcmhgfgookaa.A
open Go
variable {P : Program} {T : TT} {w w0 : World} {S S0 : Nat → Prop} {F : Fr} {r : List Root} {bx : Nat → Nat} {ph : Nat → Nat → Pv} {a : Act} {st st' : St}

theorem mulSz_std (n sz : Nat) : mulSz (std P T) n sz = n * sz := by
  unfold mulSz; split
  · rename_i h; subst h; simp
  · rfl
theorem plus_std (x y : Nat) : plus (std P T) x y = x + y := by
  unfold plus; split
  · omega
  · split
    · omega
    · rfl
theorem row_withRow (R : Root) (o : Nat) (rc : RC) : (R.withRow (R.row.set o rc)).row = R.row.set o rc := by
  cases R <;> simp [Root.withRow, Root.row]
theorem getD_setCell (r : List Root) (t o : Nat) (rc : RC) (u : Nat) :
    (setCellR r t o rc).getD u .none = if t = u then (r.getD t .none).withRow ((r.getD t .none).row.set o rc) else r.getD u .none := by
  unfold setCellR
  rw [getD_set]
  by_cases h : t = u
  · subst h
    by_cases h2 : t < r.length
    · simp [h2]
    · have : r.getD t .none = .none := by rw [List.getD_eq_getElem?_getD, List.getElem?_eq_none (by omega)]; rfl
      rw [this]; simp [h2, Root.withRow]
  · simp [h]
theorem row_setCell (r : List Root) (t o : Nat) (rc : RC) (u : Nat) :
    ((setCellR r t o rc).getD u .none).row = if t = u then (r.getD t .none).row.set o rc else (r.getD u .none).row := by
  rw [getD_setCell]; split
  · rw [row_withRow]
  · rfl
theorem length_setCell (r : List Root) (t o : Nat) (rc : RC) : (setCellR r t o rc).length = r.length := by simp [setCellR]
theorem getD_push {r : List Root} {N : Nat} (hN : N < r.length) (rc : RC) (u : Nat) :
    (pushR r N rc).getD u .none = if N = u then .loose ((r.getD N .none).row ++ [rc]) else r.getD u .none := by
  unfold pushR
  rw [getD_set]
  by_cases h : N = u
  · subst h; simp [hN]
  · simp [h]
theorem length_push (r : List Root) (N : Nat) (rc : RC) : (pushR r N rc).length = r.length := by simp [pushR]
theorem box_setCell {r : List Root} {t o u : Nat} {rc : RC} {row : List RC} (h : r.getD u .none = .box row) : ∃ row', (setCellR r t o rc).getD u .none = .box row' ∧ row'.length = row.length := by
  rw [getD_setCell]; split
  · rename_i e; subst e; rw [h]; exact ⟨_, rfl, by simp [Root.row]⟩
  · exact ⟨row, h, rfl⟩

theorem owns_cell {r : List Root} {t o : Nat} {b : Nat} (h : owns r bx ph t (some o) b) : ∃ rc, (r.getD t .none).row[o]? = some rc ∧ rc.blk (ph t o) b := by
  unfold owns ownOf at h
  dsimp only at h
  split at h
  · rename_i rc hh; exact ⟨rc, hh, h⟩
  · exact h.elim
theorem owns_of_cell {r : List Root} {t o : Nat} {rc : RC} (h : (r.getD t .none).row[o]? = some rc) : owns r bx ph t (some o) = rc.blk (ph t o) := by
  funext b; unfold owns ownOf; dsimp only; rw [h]
theorem own_blk {r : List Root} {bx : Nat → Nat} {ph : Nat → Nat → Pv} {t o b : Nat} {rc : RC} (h : (r.getD t .none).row[o]? = some rc) (k : rc.blk (ph t o) b) : owns r bx ph t (some o) b := by rw [owns_of_cell h]; exact k
theorem noMe_get {row : List RC} (h : row.any RC.isMe = false) {o : Nat} {f : FuncId} (hr : row[o]? = some (.me f)) : False := by
  have := List.any_eq_false.1 h _ (List.mem_of_getElem? hr)
  exact this rfl
theorem blk_owner {rc : RC} {v : Pv} {b : Nat} (h : rc.blk v b) : rc.owner = true := by
  cases rc <;> first | rfl | exact h.elim
theorem mapAt_eq {r : List Root} {t o : Nat} {kk : KK} {m : GM} (h : mapAt r t o = some (kk, m)) : (r.getD t .none).row[o]? = some (.map kk m) := by
  unfold mapAt rootOf at h
  split at h
  · rename_i hh; cases h; exact hh
  · cases h
theorem treeAt_eq {r : List Root} {t o : Nat} {sh : Sh} {c : C} {h : Option Path} (hh : treeAt r t o = some (sh, c, h)) : (r.getD t .none).row[o]? = some (.tree sh c h) := by
  unfold treeAt rootOf at hh
  split at hh
  · rename_i h1; cases hh; exact h1
  · cases hh
theorem nodeAt_eq {r : List Root} {t o : Nat} {p : Path} {e : TypeId} {ks : List Sh} {n : Nat} {cells : List C} (hh : nodeAt (std P T) r t o p = some (e, ks, n, cells)) :
    ∃ sh c h, (r.getD t .none).row[o]? = some (.tree sh c h) ∧ sh.to p = .sl e ks ∧ n = gn (atC c p) ∧ cells = gc (atC c p) := by
  unfold nodeAt at hh
  split at hh
  · rename_i sh c h ht
    split at hh
    · rename_i e' ks' hs
      cases hh
      exact ⟨sh, c, h, treeAt_eq ht, hs, by rw [lenJ_std, atJ_std], by rw [clsJ_std, atJ_std]⟩
    · cases hh
  · cases hh
theorem owns_box {r : List Root} {t : Nat} {b : Nat} (h : owns r bx ph t none b) : ∃ row, r.getD t .none = .box row ∧ b = bx t := by
  unfold owns at h
  dsimp only at h
  split at h
  · rename_i row hh; exact ⟨row, hh, h.symm⟩
  · exact h.elim
theorem owns_of_box {r : List Root} {t : Nat} {row : List RC} (h : r.getD t .none = .box row) : owns r bx ph t none (bx t) := by
  unfold owns; dsimp only; rw [h]
theorem ownAt_eq {r : List Root} {t o : Nat} {e : TypeId} {n : Nat} {cells : List C} (h : ownAt r t o = some (e, n, cells)) : (r.getD t .none).row[o]? = some (.own e n cells) := by
  unfold ownAt rootOf at h
  split at h
  · rename_i hh; cases h; exact hh
  · cases h

/-- a cell of a root, as its root means it -/
theorem Heap.cell (h : Heap T w S r bx ph) {t o : Nat} {rc : RC} (hc : (r.getD t .none).row[o]? = some rc) : RCRep T w S (ph t o) rc := by
  have hr := h.root t
  obtain ⟨ho, he⟩ := List.getElem?_eq_some_iff.1 hc
  cases hR : r.getD t .none with
  | none => simp only [hR, Root.row] at ho; exact absurd ho (by simp)
  | box row =>
    simp only [hR] at hr ho he
    rw [← he]; exact hr.2.1 o ho
  | loose row =>
    simp only [hR] at hr ho he
    rw [← he]; exact hr o ho

/-- a root's cell changes its word: what it is taken for still holds -/
theorem RootRep.setCell {R : Root} {b : Nat} {φ : Nat → Pv} {o : Nat} {rc : RC} (h : RootRep T w S b φ R) (hc : o < R.row.length → RCRep T w S (φ o) rc) (hme : rc.isMe = false) : RootRep T w S b φ (R.withRow (R.row.set o rc)) := by
  have key : ∀ row : List RC, (o < row.length → RCRep T w S (φ o) rc) → (∀ k (hk : k < row.length), RCRep T w S (φ k) row[k]) → ∀ k (hk : k < (row.set o rc).length), RCRep T w S (φ k) (row.set o rc)[k] := by
    intro row hc hr k hk
    rw [List.getElem_set]
    split
    · rename_i e; subst e; exact hc (by simpa using hk)
    · exact hr k _
  cases R with
  | none => trivial
  | box row =>
    obtain ⟨⟨arr, e, h1, h2, h3⟩, h4⟩ := h
    refine ⟨⟨arr, e, h1, by simp [h2, Root.row], fun k hk => h3 k (by simpa [Root.row] using hk)⟩, key row hc h4.1, fun k f hk => ?_⟩
    have hk' : (row.set o rc)[k]? = some (.me f) := hk
    rw [List.getElem?_set] at hk'
    split at hk'
    · split at hk'
      · cases hk'; cases hme
      · cases hk'
    · exact h4.2 k f hk'
  | loose row => exact key row hc h

theorem owns_dead {t o u : Nat} {κ : Option Nat} {b : Nat} (h : owns (setCellR r t o .dead) bx ph u κ b) : owns r bx ph u κ b ∧ ¬ (u = t ∧ κ = some o) := by
  cases κ with
  | none =>
    obtain ⟨row, h1, rfl⟩ := owns_box h
    rw [getD_setCell] at h1
    refine ⟨?_, by simp⟩
    split at h1
    · rename_i e; subst e
      cases hR : r.getD t .none with
      | box row' => exact owns_of_box hR
      | none => rw [hR] at h1; cases h1
      | loose row' => rw [hR] at h1; cases h1
    · exact owns_of_box h1
  | some p =>
    obtain ⟨rc, h1, h2⟩ := owns_cell h
    rw [row_setCell] at h1
    split at h1
    · rename_i e; subst e
      rw [List.getElem?_set] at h1
      split at h1
      · split at h1 <;> cases h1
        cases h2
      · rename_i hne
        refine ⟨own_blk h1 h2, fun hh => hne ?_⟩
        have := hh.2; simp at this; exact this.symm
    · rename_i hne
      exact ⟨own_blk h1 h2, fun hh => hne hh.1.symm⟩

theorem Heap.dead (h : Heap T w S r bx ph) (t o : Nat) : Heap T w S (setCellR r t o .dead) bx ph := by
  refine ⟨fun u => ?_, fun u κ u' κ' b h1 h2 => h.inj u κ u' κ' b (owns_dead h1).1 (owns_dead h2).1, fun u κ b h1 => h.free u κ b (owns_dead h1).1, h.low⟩
  rw [getD_setCell]; split
  · rename_i e; subst e; exact (h.root t).setCell (fun _ => trivial) rfl
  · exact h.root u

/-- one cell more for a loose root -/
def phPush (ph : Nat → Nat → Pv) (N L : Nat) (v : Pv) : Nat → Nat → Pv := fun t o => if t = N ∧ o = L then v else ph t o
theorem owns_push {N : Nat} (hN : N < r.length) (hb : ∀ row, r.getD N .none ≠ .box row) {rc : RC} {v : Pv} {u : Nat} {κ : Option Nat} {b : Nat}
    (h : owns (pushR r N rc) bx (phPush ph N (r.getD N .none).row.length v) u κ b) :
    (u = N ∧ κ = some (r.getD N .none).row.length ∧ rc.blk v b) ∨ (owns r bx ph u κ b ∧ ¬ (u = N ∧ κ = some (r.getD N .none).row.length)) := by
  cases κ with
  | none =>
    obtain ⟨row, h1, rfl⟩ := owns_box h
    rw [getD_push hN] at h1
    split at h1
    · cases h1
    · exact .inr ⟨owns_of_box h1, by simp⟩
  | some p =>
    obtain ⟨rc', h1, h2⟩ := owns_cell h
    rw [getD_push hN] at h1
    by_cases hu : N = u
    · subst hu
      rw [if_pos rfl] at h1
      have h1' : ((r.getD N .none).row ++ [rc])[p]? = some rc' := h1
      clear h1
      rw [List.getElem?_append] at h1'
      split at h1'
      · rename_i hp
        have hne : p ≠ (r.getD N .none).row.length := by omega
        simp only [phPush] at h2
        rw [if_neg (fun hh => hne hh.2)] at h2
        exact .inr ⟨own_blk h1' h2, fun hh => hne (by simpa using hh.2)⟩
      · rename_i hp
        obtain ⟨hi, he⟩ := List.getElem?_eq_some_iff.1 h1'
        have hp2 : p = (r.getD N .none).row.length := by
          have : p - (r.getD N .none).row.length < 1 := hi
          omega
        have he2 : rc = rc' := by
          have : ([rc] : List RC)[p - (r.getD N .none).row.length]? = some rc' := by rw [List.getElem?_eq_getElem hi, he]
          rw [show p - (r.getD N .none).row.length = 0 by omega] at this
          simpa using this
        rw [hp2] at h2
        simp only [phPush] at h2
        rw [if_pos ⟨trivial, trivial⟩] at h2
        exact .inl ⟨rfl, by rw [hp2], by rw [he2]; exact h2⟩
    · rw [if_neg hu] at h1
      simp only [phPush] at h2
      rw [if_neg (fun hh => hu hh.1.symm)] at h2
      exact .inr ⟨own_blk h1 h2, fun hh => hu hh.1.symm⟩

theorem Heap.push (h : Heap T w S r bx ph) {N : Nat} (hN : N < r.length) (hb : ∀ row, r.getD N .none ≠ .box row) {rc : RC} {v : Pv} (hrc : RCRep T w S v rc)
    (hfree : ∀ b, rc.blk v b → ¬ S b ∧ b < w.heap.size ∧ ∀ u κ, ¬ owns r bx ph u κ b) :
    Heap T w S (pushR r N rc) bx (phPush ph N (r.getD N .none).row.length v) := by
  refine ⟨fun u => ?_, fun u κ u' κ' b h1 h2 => ?_, fun u κ b h1 => ?_, h.low⟩
  · rw [getD_push hN]
    by_cases hu : N = u
    · subst hu
      rw [if_pos rfl]
      intro o ho
      have hcell : ∀ o (ho : o < (r.getD N .none).row.length), RCRep T w S (ph N o) (r.getD N .none).row[o] := fun o ho => h.cell (List.getElem?_eq_getElem ho)
      have ho' : o < ((r.getD N .none).row ++ [rc]).length := ho
      show RCRep T w S (phPush ph N (r.getD N .none).row.length v N o) ((r.getD N .none).row ++ [rc])[o]
      generalize hrow : (r.getD N .none).row = row at *
      rw [List.getElem_append]
      split
      · rename_i ho2
        have : ¬ (N = N ∧ o = row.length) := by omega
        unfold phPush
        rw [if_neg this]
        exact hcell o ho2
      · have : o = row.length := by simp at ho'; omega
        unfold phPush
        rw [if_pos (And.intro rfl this)]
        subst this
        simpa using hrc
    · rw [if_neg hu]
      have := h.root u
      have e : phPush ph N (r.getD N .none).row.length v u = ph u := by funext o; simp [phPush, Ne.symm hu]
      rw [e]; exact this
  · rcases owns_push hN hb h1 with ⟨rfl, rfl, hv⟩ | ⟨h1o, hne⟩
    · rcases owns_push hN hb h2 with ⟨rfl, rfl, _⟩ | ⟨h2, hne⟩
      · exact ⟨rfl, rfl⟩
      · exact absurd h2 ((hfree b hv).2.2 _ _)
    · rcases owns_push hN hb h2 with ⟨_, _, hv⟩ | ⟨h2o, hne2⟩
      · exact absurd h1o ((hfree b hv).2.2 _ _)
      · exact h.inj _ _ _ _ b h1o h2o
  · rcases owns_push hN hb h1 with ⟨rfl, rfl, hv⟩ | ⟨h1, hne⟩
    · exact ⟨(hfree b hv).1, (hfree b hv).2.1⟩
    · exact h.free _ _ b h1

/-- the machine's state turns, the frame and the world do not -/
theorem Rel.ghost (h : Rel T w0 S0 F st a w S bx ph) {S' : Nat → Prop} {bx' : Nat → Nat} {ph' : Nat → Nat → Pv} (f : X → X)
    (hs : st'.s = st.s.map (mapV f)) (hr : st'.r.length = st.r.length) (hh : Heap T w S' st'.r bx' ph')
    (hm : ∀ t κ b, owns st'.r bx' ph' t κ b → ∃ t κ, owns st.r bx ph t κ b)
    (hf : ∀ v x, XRep T w S st.r bx ph v x → XRep T w S' st'.r bx' ph' v (f x))
    (hk : ∀ b, S b → S' b) (hn : ∀ b, S' b → S b ∨ ∃ t κ, owns st.r bx ph t κ b) (hbx : ∀ t, st.s.length < t → bx' t = bx t := by exact fun _ _ => rfl) : Rel T w0 S0 F st' a w S' bx' ph' := by
  have hl : st'.s.length = st.s.length := by rw [hs]; simp
  refine ⟨by rw [hl]; exact h.size, ⟨by rw [hr, hl]; exact h.rsize.1, fun t ht => by rw [hl] at ht; rw [hbx t ht]; exact h.rsize.2 t ht⟩, h.defers, hh, fun t κ b hb => ?_, ?_, fun b hb => hk b (h.keep b hb), fun b hb => ?_, h.chg⟩
  · obtain ⟨t', κ', hb'⟩ := hm t κ b hb; exact h.mine t' κ' b hb'
  · rw [hs]; exact slots_map f hf h.slot
  · rcases hn b hb with hb | ⟨t, κ, hb⟩
    · exact h.new b hb
    · exact .inr (h.mine t κ b hb)
end Go.Proofs.Ytdmdcmhgfgookaa.A
