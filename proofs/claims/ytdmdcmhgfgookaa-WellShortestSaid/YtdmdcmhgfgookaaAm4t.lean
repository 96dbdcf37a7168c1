/- The ghost machine: slices that own what they hold, at the end of a way. -/
import Derived.Test.YtdmdcmhgfgookaaAm4
set_option linter.unusedSimpArgs false
set_option linter.unusedVariables false
set_option maxRecDepth 100000
set_option maxHeartbeats 4000000
namespace Go.Proofs.Ytdmdcmhgfgookaa.A
open Go
variable {P : Program} {T : TT} {w w' : World} {S S' : Nat → Prop}

/-- what a tree reads as at the end of a way -/
def atC : C → Path → C
  | c, [] => c
  | c, (k, _) :: p => atC (cellAt (gc c) k) p
/-- the same, with something else there -/
def updC (f : C → C) : C → Path → C
  | c, [] => f c
  | c, (k, _) :: p => .sl (gn c) (setC (gc c) k [updC f (cellAt (gc c) k) p])
def Pv.put : Pv → Path → Pv → Pv
  | _, [], q => q
  | .mk v b ks, (k, _) :: p, q => .mk v b (match ks[k]? with | some u => ks.set k (u.put p q) | none => ks)

theorem lenJ_std (c : C) : lenJ (std P T) c = gn c := by cases c <;> rfl
theorem clsJ_std (c : C) : clsJ (std P T) c = gc c := by cases c <;> rfl
theorem slJ_std (c : C) : slJ (std P T) c = .sl (gn c) (gc c) := by unfold slJ; rw [lenJ_std, clsJ_std]
theorem atJ_std : ∀ (p : Path) (c : C), atJ (std P T) c p = atC c p := by
  intro p
  induction p with
  | nil => intro c; cases c <;> rfl
  | cons x p ih =>
    obtain ⟨k, off⟩ := x
    intro c
    rw [atJ, atC, clsJ_std, ih]; rfl
theorem updJ_std (f : C → C) : ∀ (p : Path) (c : C), updJ (std P T) f c p = updC f c p := by
  intro p
  induction p with
  | nil => intro c; cases c <;> rfl
  | cons x p ih =>
    obtain ⟨k, off⟩ := x
    intro c
    rw [updJ, updC, lenJ_std, clsJ_std, ih]; rfl
theorem Pv.get_nil (pv : Pv) : pv.get? [] = some pv := by cases pv; rfl
theorem Pv.get_cons {v : Value} {b : Option Nat} {ks : List Pv} {k off : Nat} {p : Path} {q : Pv} (h : (Pv.mk v b ks).get? ((k, off) :: p) = some q) : ∃ hk : k < ks.length, ks[k].get? p = some q := by
  rw [Pv.get?] at h
  cases e : ks[k]? with
  | none => rw [e] at h; cases h
  | some u =>
    rw [e] at h
    obtain ⟨hk, rfl⟩ := List.getElem?_eq_some_iff.1 e
    exact ⟨hk, h⟩
theorem cellAt_get {cs : List C} {k : Nat} (h : k < cs.length) : cellAt cs k = cs[k] := by unfold cellAt; rw [List.getD_eq_getElem?_getD, List.getElem?_eq_getElem h]; rfl
theorem holeAt_none (k : Nat) : holeAt none k = none := rfl
theorem CRepT.val {hp : Option (List Nat)} {e : TypeId} {ks : List Sh} {u : Value} {q : Pv} {c : C} (h : CRepT T w S hp (.sl e ks) u q c) : u = q.v := by
  cases h with
  | nil _ => rfl
  | hole => rfl
  | node => rfl

/-- a slice of a tree: nil, or a block of its own; where a hole is, nothing is known -/
theorem CRepT.sl_cases {hp : Option (List Nat)} {e : TypeId} {ks : List Sh} {u : Value} {q : Pv} {c : C} (h : CRepT T w S hp (.sl e ks) u q c) (hn : q.b = none → q.v = nilSl) :
    (q.v = nilSl ∧ gn c = 0 ∧ gc c = [] ∧ q.b = none ∧ q.kids = []) ∨
    ∃ g cap xs, q.b = some g ∧ q.v = .slice (some ⟨g, 0, none⟩) (gn c) cap ∧ w.ownsRow 0 e (szOf T e) q.v (gn c) xs ∧ (gc c).length = xs.length ∧ q.kids.length = xs.length ∧ c = .sl (gn c) (gc c) ∧ hp ≠ some [] ∧
      ∀ k (h1 : k < xs.length) (h2 : k < q.kids.length) (h3 : k < (gc c).length), CRepT T w S (holeAt hp k) (ks.getD (k % szOf T e) .st) xs[k] q.kids[k] (gc c)[k] := by
  cases h with
  | nil hc => rcases hc with rfl | rfl <;> exact .inl ⟨rfl, rfl, rfl, rfl, rfl⟩
  | hole => exact .inl ⟨hn rfl, rfl, rfl, rfl, rfl⟩
  | node h1 h2 h3 h4 h5 h6 => exact .inr ⟨_, _, _, rfl, rfl, h3, h4, h5, rfl, h1, h6⟩

theorem CRepT.get : ∀ (p : Path) {hp : Option (List Nat)} {sh : Sh} {v : Value} {pv q : Pv} {c : C}, CRepT T w S hp sh v pv c → pv.get? p = some q → pathOk T sh p →
    ∃ hp' u, CRepT T w S hp' (sh.to p) u q (atC c p) ∧ (hp = none → hp' = none) ∧ (p = [] → u = v) := by
  intro p
  induction p with
  | nil =>
    intro hp sh v pv q c h hg _
    rw [Pv.get_nil] at hg; cases hg
    have e : sh.to [] = sh := by cases sh <;> rfl
    rw [e]
    exact ⟨hp, v, h, fun h => h, fun _ => rfl⟩
  | cons x p ih =>
    obtain ⟨k, off⟩ := x
    intro hp sh v pv q c h hg hk
    cases h with
    | st _ => obtain ⟨hk', _⟩ := Pv.get_cons hg; exact absurd hk' (by simp)
    | nil _ => obtain ⟨hk', _⟩ := Pv.get_cons hg; exact absurd hk' (by simp)
    | hole => obtain ⟨hk', _⟩ := Pv.get_cons hg; exact absurd hk' (by simp)
    | node h1 h2 h3 h4 h5 h6 =>
      rename_i e ks g n cap xs cells kids
      obtain ⟨hk', hg'⟩ := Pv.get_cons hg
      obtain ⟨hk1, hk2⟩ := hk
      have hx : k < xs.length := by omega
      have hc : k < cells.length := by omega
      have hh := h6 k hx hk' hc
      rw [hk1] at hh
      obtain ⟨hp', u, a1, a2, _⟩ := ih hh hg' hk2
      refine ⟨hp', u, ?_, fun e => a2 (by rw [e]; rfl), fun e => by cases e⟩
      show CRepT T w S hp' _ u q (atC (cellAt cells k) p)
      rw [cellAt_get hc]; exact a1

theorem ownsRow_cell {b : Nat} {e : TypeId} {sz n cap g : Nat} {xs : List Value} (h : w.ownsRow b e sz (.slice (some ⟨g, 0, none⟩) n cap) n xs) : (∀ k (hk : k < xs.length), w.cell? ⟨g, k, none⟩ = some xs[k]) ∧ n ≤ cap := by
  rcases h.2 with ⟨hv, _⟩ | ⟨g', cap', cur, hv, hB, hheap, hle, hm, hs, ht⟩
  · cases hv
  · cases hv
    refine ⟨fun k hk => ?_, hle⟩
    have h5 : (cur.toList.take (n * sz))[k]? = some xs[k] := by rw [ht, List.getElem?_eq_getElem hk]
    rw [List.getElem?_take] at h5
    have hcur : cur[k]? = some xs[k] := by
      split at h5
      · simpa using h5
      · cases h5
    simp [World.cell?, hheap, hcur]
theorem Pv.get_snoc : ∀ (p : Path) {pv q : Pv} {k off : Nat}, pv.get? p = some q → (hk : k < q.kids.length) → pv.get? (p ++ [(k, off)]) = some q.kids[k] := by
  intro p
  induction p with
  | nil =>
    intro pv q k off h hk
    rw [Pv.get_nil] at h; cases h
    obtain ⟨v, g, ks⟩ := pv
    have hk' : k < ks.length := hk
    show (match ks[k]? with | some q => q.get? [] | none => none) = _
    rw [List.getElem?_eq_getElem hk']
    exact Pv.get_nil _
  | cons x p ih =>
    obtain ⟨k1, off1⟩ := x
    intro pv q k off h hk
    obtain ⟨v, g, ks⟩ := pv
    obtain ⟨hk1, h1⟩ := Pv.get_cons h
    show (match ks[k1]? with | some q => q.get? (p ++ [(k, off)]) | none => none) = _
    rw [List.getElem?_eq_getElem hk1]
    exact ih h1 hk
theorem atC_snoc : ∀ (p : Path) (c : C) (k off : Nat), atC c (p ++ [(k, off)]) = cellAt (gc (atC c p)) k := by
  intro p
  induction p with
  | nil => intro c k off; rfl
  | cons x p ih => intro c k off; obtain ⟨k1, off1⟩ := x; exact ih _ k off
theorem Sh.to_snoc : ∀ (p : Path) {sh : Sh} {e : TypeId} {ks : List Sh} {k off : Nat}, sh.to p = .sl e ks → sh.to (p ++ [(k, off)]) = ks.getD off .st := by
  intro p
  induction p with
  | nil =>
    intro sh e ks k off h
    have e0 : sh.to [] = sh := by cases sh <;> rfl
    rw [e0] at h; subst h
    show (ks.getD off .st).to [] = _
    cases ks.getD off .st <;> rfl
  | cons x p ih =>
    intro sh e ks k off h
    obtain ⟨k1, off1⟩ := x
    cases sh with
    | st => cases h
    | sl e1 ks1 => exact ih h
theorem pathOk_snoc : ∀ (p : Path) {sh : Sh} {e : TypeId} {ks : List Sh} {k off : Nat}, pathOk T sh p → sh.to p = .sl e ks → k % szOf T e = off → pathOk T sh (p ++ [(k, off)]) := by
  intro p
  induction p with
  | nil =>
    intro sh e ks k off _ h hk
    have e0 : sh.to [] = sh := by cases sh <;> rfl
    rw [e0] at h; subst h
    exact ⟨hk, by cases ks.getD off .st <;> simp [pathOk]⟩
  | cons x p ih =>
    intro sh e ks k off h h1 hk
    obtain ⟨k1, off1⟩ := x
    cases sh with
    | st => exact h.elim
    | sl e1 ks1 => exact ⟨h.1, ih h.2 h1 hk⟩
theorem Pv.get_blks : ∀ (p : Path) {pv q : Pv}, pv.get? p = some q → ∀ b, b ∈ q.blks → b ∈ pv.blks := by
  intro p
  induction p with
  | nil => intro pv q h b hb; rw [Pv.get_nil] at h; cases h; exact hb
  | cons x p ih =>
    obtain ⟨k, off⟩ := x
    intro pv q h b hb
    obtain ⟨v, g, ks⟩ := pv
    obtain ⟨hk, h'⟩ := Pv.get_cons h
    exact mem_blks.2 (.inr ⟨k, hk, ih h' b hb⟩)
theorem CRepT.still {hp : Option (List Nat)} {sh : Sh} {v : Value} {pv : Pv} {c : C} (h : CRepT T w S hp sh v pv c) : hp = none → CRep w (fun b => S b ∨ b ∈ pv.blks) v c := by
  induction h with
  | st h => exact fun _ => h.frame (fun _ _ => rfl) fun _ h => .inl h
  | nil h => intro _; rcases h with rfl | rfl <;> first | exact .nil | exact .sl0
  | hole => exact fun e => by cases e
  | node h1 h2 h3 h4 h5 _ ih =>
    rename_i e ks g n cap xs cells kids _
    intro hn
    subst hn
    obtain ⟨hcell, hle⟩ := ownsRow_cell h3
    · refine .sl (fun k => xs.getD k undef) (.inr (mem_blks.2 (.inl rfl))) hle (fun k hk => ?_) (fun k hk => ?_)
      · have hx : k < xs.length := by omega
        rw [Nat.zero_add, hcell k hx, List.getD_eq_getElem?_getD, List.getElem?_eq_getElem hx]; rfl
      · have hx : k < xs.length := by omega
        have hkk : k < kids.length := by omega
        have := (ih k hx hkk hk rfl).frame (w' := w) (S' := fun b => S b ∨ b ∈ (Pv.mk (.slice (some ⟨g, 0, none⟩) n cap) (some g) kids).blks) (fun _ _ => rfl) (fun b hb => hb.imp id fun hb => mem_blks.2 (.inr ⟨k, hkk, hb⟩))
        rw [List.getD_eq_getElem?_getD, List.getElem?_eq_getElem hx]; exact this
theorem CRepT.stillN {e : TypeId} {ks : List Sh} {v : Value} {pv : Pv} {c : C} (h : CRepT T w S none (.sl e ks) v pv c) : CRep w (fun b => S b ∨ b ∈ pv.blks) v (.sl (gn c) (gc c)) := by
  have h1 := h.still rfl
  cases h with
  | nil hc => rcases hc with rfl | rfl <;> exact .sl0
  | node => exact h1
theorem CRepT.bval {hp : Option (List Nat)} {e : TypeId} {ks : List Sh} {u : Value} {q : Pv} {c : C} (h : CRepT T w S hp (.sl e ks) u q c) (hb : q.b = none) : q.v = nilSl ∨ hp = some [] := by
  cases h with
  | nil _ => exact .inl rfl
  | hole => exact .inr rfl
  | node => cases hb
theorem CRepT.form {e : TypeId} {ks : List Sh} {v : Value} {pv : Pv} {c : C} (h : CRepT T w S none (.sl e ks) v pv c) : c = .nil ∨ c = .sl (gn c) (gc c) := by
  cases h with
  | nil hc => rcases hc with rfl | rfl <;> first | exact .inl rfl | exact .inr rfl
  | node => exact .inr rfl
/-- the same, taken for unchangeable as a whole: so is what stands in it -/
theorem CRepT.down : ∀ (p : Path) {sh : Sh} {v : Value} {pv q : Pv} {c : C}, CRepT T w S none sh v pv c → CRep w S' v (.sl (gn c) (gc c)) → pv.get? p = some q → pathOk T sh p → (∃ e ks, sh.to p = .sl e ks) →
    CRep w S' q.v (.sl (gn (atC c p)) (gc (atC c p))) := by
  intro p
  induction p with
  | nil =>
    intro sh v pv q c h hc hg _ ht
    rw [Pv.get_nil] at hg; cases hg
    obtain ⟨e, ks, ht⟩ := ht
    have e0 : sh.to [] = sh := by cases sh <;> rfl
    rw [e0] at ht; subst ht
    rw [← h.val]; exact hc
  | cons x p ih =>
    obtain ⟨k, off⟩ := x
    intro sh v pv q c h hc hg hk ht
    cases h with
    | st _ => obtain ⟨hk', _⟩ := Pv.get_cons hg; exact absurd hk' (by simp)
    | nil _ => obtain ⟨hk', _⟩ := Pv.get_cons hg; exact absurd hk' (by simp)
    | node h1 h2 h3 h4 h5 h6 =>
      rename_i e ks g n cap xs cells kids
      obtain ⟨hk', hg'⟩ := Pv.get_cons hg
      obtain ⟨hk1, hk2⟩ := hk
      have hx : k < xs.length := by omega
      have hcl : k < cells.length := by omega
      have hh := h6 k hx hk' hcl
      rw [hk1] at hh
      have hcell := (ownsRow_cell h3).1 k hx
      have hc' : CRep w S' (.slice (some ⟨g, 0, none⟩) n cap) (.sl n cells) := hc
      show CRep w S' q.v (.sl (gn (atC (cellAt cells k) p)) (gc (atC (cellAt cells k) p)))
      rw [cellAt_get hcl]
      have hk3 : CRep w S' xs[k] cells[k] := by
        cases hc' with
        | sl0 => exact absurd hcl (by simp)
        | sl vs _ _ q1 q2 =>
          have := q1 k hcl
          rw [Nat.zero_add, hcell] at this
          rw [Option.some.inj this]
          exact q2 k hcl
      cases hsh : ks.getD off .st with
      | st =>
        rw [hsh] at hk2
        obtain ⟨e', ks', ht⟩ := ht
        have ht' : (ks.getD off .st).to p = .sl e' ks' := ht
        rw [hsh] at ht'
        cases p <;> cases ht'
      | sl e1 ks1 =>
        rw [hsh] at hh
        have ht' : ∃ e' ks', (Sh.sl e1 ks1).to p = .sl e' ks' := by rw [← hsh]; exact ht
        refine ih (v := xs[k]) hh ?_ hg' (by rw [← hsh]; exact hk2) ht'
        rcases hh.form with e2 | e2
        · rw [e2] at hk3 ⊢
          generalize xs[k] = z at hk3 ⊢
          cases hk3; exact .sl0
        · rw [← e2]; exact hk3
/-! ### something else at the end of a way -/
theorem Pv.put_nil (pv q : Pv) : pv.put [] q = q := by cases pv; rfl
theorem Pv.put_cons {v : Value} {b : Option Nat} {ks : List Pv} {k off : Nat} {p : Path} {q : Pv} (hk : k < ks.length) : (Pv.mk v b ks).put ((k, off) :: p) q = .mk v b (ks.set k (ks[k].put p q)) := by
  show Pv.mk v b (match ks[k]? with | some u => ks.set k (u.put p q) | none => ks) = _
  rw [List.getElem?_eq_getElem hk]
theorem blksL_split {ks : List Pv} {k : Nat} (hk : k < ks.length) : ∃ rest, (blksL ks).Perm (ks[k].blks ++ rest) ∧ ∀ u : Pv, (blksL (ks.set k u)).Perm (u.blks ++ rest) := by
  induction ks generalizing k with
  | nil => simp at hk
  | cons x ks ih =>
    cases k with
    | zero => exact ⟨blksL ks, .refl _, fun u => .refl _⟩
    | succ k =>
      have hk' : k < ks.length := by simpa using hk
      obtain ⟨rest, h1, h2⟩ := ih hk'
      refine ⟨x.blks ++ rest, ?_, fun u => ?_⟩
      · show (x.blks ++ blksL ks).Perm (ks[k].blks ++ (x.blks ++ rest))
        exact (h1.append_left _).trans (List.perm_append_comm_assoc ..)
      · show (x.blks ++ blksL (ks.set k u)).Perm (u.blks ++ (x.blks ++ rest))
        exact ((h2 u).append_left _).trans (List.perm_append_comm_assoc ..)
theorem Pv.put_blks : ∀ (p : Path) {pv q : Pv}, pv.get? p = some q → ∃ rest, pv.blks.Perm (q.blks ++ rest) ∧ ∀ q' : Pv, (pv.put p q').blks.Perm (q'.blks ++ rest) := by
  intro p
  induction p with
  | nil =>
    intro pv q h
    rw [Pv.get_nil] at h; cases h
    exact ⟨[], by simp, fun q' => by rw [Pv.put_nil]; simp⟩
  | cons x p ih =>
    obtain ⟨k, off⟩ := x
    intro pv q h
    obtain ⟨v, g, ks⟩ := pv
    obtain ⟨hk, h1⟩ := Pv.get_cons h
    obtain ⟨r1, a1, a2⟩ := ih h1
    obtain ⟨r2, b1, b2⟩ := blksL_split hk
    refine ⟨g.toList ++ (r1 ++ r2), ?_, fun q' => ?_⟩
    · show (g.toList ++ blksL ks).Perm _
      refine ((b1.trans (a1.append_right r2)).append_left _).trans ?_
      rw [List.append_assoc]
      exact List.perm_append_comm_assoc ..
    · rw [Pv.put_cons hk]
      show (g.toList ++ blksL (ks.set k (ks[k].put p q'))).Perm _
      refine (((b2 _).trans ((a2 q').append_right r2)).append_left _).trans ?_
      rw [List.append_assoc]
      exact List.perm_append_comm_assoc ..
/-- what is seen from further out stays -/
theorem Pv.put_get : ∀ (p' p : Path) {pv q q0 q' : Pv}, pv.get? p = some q → pv.get? p' = some q0 → (p'.length < p.length ∨ (p'.length = p.length ∧ q'.v = q.v ∧ q'.b = q.b)) → ∃ q2, (pv.put p q').get? p' = some q2 ∧ q2.v = q0.v ∧ q2.b = q0.b := by
  intro p'
  induction p' with
  | nil =>
    intro p pv q q0 q' h h0 hl
    rw [Pv.get_nil] at h0; cases h0
    refine ⟨_, Pv.get_nil _, ?_⟩
    cases p with
    | nil =>
      rw [Pv.get_nil] at h; cases h
      rw [Pv.put_nil]
      rcases hl with hl | ⟨_, h1, h2⟩
      · exact absurd hl (by simp)
      · exact ⟨h1, h2⟩
    | cons x p => obtain ⟨k, off⟩ := x; obtain ⟨v, g, ks⟩ := pv; exact ⟨rfl, rfl⟩
  | cons x' p' ih =>
    obtain ⟨k', off'⟩ := x'
    intro p pv q q0 q' h h0 hl
    cases p with
    | nil => exact absurd hl (by simp)
    | cons x p =>
      obtain ⟨k, off⟩ := x
      obtain ⟨v, g, ks⟩ := pv
      obtain ⟨hk, h1⟩ := Pv.get_cons h
      obtain ⟨hk', h1'⟩ := Pv.get_cons h0
      rw [Pv.put_cons hk]
      show ∃ q2, (match (ks.set k (ks[k].put p q'))[k']? with | some q => q.get? p' | none => none) = some q2 ∧ _
      rw [List.getElem?_set]
      by_cases e : k = k'
      · subst e
        rw [if_pos rfl, if_pos hk]
        exact ih p h1 h1' (by simpa using hl)
      · rw [if_neg e, List.getElem?_eq_getElem hk']
        exact ⟨q0, h1', rfl, rfl⟩
theorem Pv.put_v {pv q : Pv} {p : Path} (h : p ≠ []) : (pv.put p q).v = pv.v := by
  cases p with
  | nil => exact absurd rfl h
  | cons x p => obtain ⟨k, off⟩ := x; obtain ⟨v, g, ks⟩ := pv; rfl

theorem setC_one {cs : List C} {k : Nat} {u : C} (h : k < cs.length) : setC cs k [u] = cs.set k u := by
  unfold setC
  rw [List.set_eq_take_append_cons_drop, if_pos h]
  simp
theorem holeAt_cons (k : Nat) (p : List Nat) : holeAt (some (k :: p)) k = some p := by simp [holeAt]
theorem holeAt_ne {k i : Nat} {p : List Nat} (h : k ≠ i) : holeAt (some (k :: p)) i = none := by simp [holeAt, h]
theorem holeAt_map {k i : Nat} {p : List Nat} (h : Option (List Nat)) (hne : k ≠ i) : holeAt (h.map (k :: p ++ ·)) i = none := by
  cases h with
  | none => rfl
  | some r => exact holeAt_ne hne
theorem holeAt_map_self {k : Nat} {p : List Nat} (h : Option (List Nat)) : holeAt (h.map (k :: p ++ ·)) k = h.map (p ++ ·) := by
  cases h with
  | none => rfl
  | some r => exact holeAt_cons _ _
/-- at the end of a way the tree turns; h0, h1: the hole there, before and behind -/
theorem CRepT.upd : ∀ (p : Path) {sh : Sh} {v : Value} {pv q q' : Pv} {c : C} {f : C → C} {h0 h1 : Option (List Nat)}, CRepT T w S (h0.map (pathN p ++ ·)) sh v pv c → pv.get? p = some q → pathOk T sh p → pv.blks.Nodup →
    (∀ b, S b → w'.heap[b]? = w.heap[b]?) → (∀ b, b ∈ pv.blks → b ∉ q.blks → w'.heap[b]? = w.heap[b]?) → (∀ u, CRepT T w S h0 (sh.to p) u q (atC c p) → CRepT T w' S h1 (sh.to p) u q' (f (atC c p))) →
    CRepT T w' S (h1.map (pathN p ++ ·)) sh v (pv.put p q') (updC f c p) := by
  intro p
  induction p with
  | nil =>
    intro sh v pv q q' c f h0 h1 h hg hk hnd hS ho hf
    rw [Pv.get_nil] at hg; cases hg
    have e0 : sh.to [] = sh := by cases sh <;> rfl
    rw [e0] at hf
    have e1 : ∀ x : Option (List Nat), x.map (pathN [] ++ ·) = x := fun x => by cases x <;> rfl
    rw [e1] at h ⊢
    rw [Pv.put_nil]
    have e2 : updC f c [] = f c := by cases c <;> rfl
    have e3 : atC c [] = c := by cases c <;> rfl
    rw [e2]
    rw [e3] at hf
    exact hf v h
  | cons x p ih =>
    obtain ⟨k, off⟩ := x
    intro sh v pv q q' c f h0 h1 h hg hk hnd hS ho hf
    have ep : pathN ((k, off) :: p) = k :: pathN p := rfl
    rw [ep] at h ⊢
    generalize hgen : h0.map (k :: pathN p ++ ·) = hp0 at h
    cases h with
    | st _ => obtain ⟨hk', _⟩ := Pv.get_cons hg; exact absurd hk' (by simp)
    | nil _ => obtain ⟨hk', _⟩ := Pv.get_cons hg; exact absurd hk' (by simp)
    | hole => obtain ⟨hk', _⟩ := Pv.get_cons hg; exact absurd hk' (by simp)
    | node a1 a2 a3 a4 a5 a6 =>
      rename_i e ks g n cap xs cells kids
      obtain ⟨hk', hg'⟩ := Pv.get_cons hg
      obtain ⟨hk1, hk2⟩ := hk
      have hx : k < xs.length := by omega
      have hc : k < cells.length := by omega
      have hnd2 : g ∉ blksL kids ∧ (blksL kids).Nodup := by
        have : ([g] ++ blksL kids).Nodup := hnd
        exact List.nodup_cons.1 this
      obtain ⟨rest, r1, _⟩ := blksL_split hk'
      have hnd3 : (kids[k].blks ++ rest).Nodup := r1.nodup_iff.1 hnd2.2
      have hqk : ∀ b, b ∈ q.blks → b ∈ kids[k].blks := Pv.get_blks p hg'
      have hgq : g ∉ q.blks := fun hh => hnd2.1 (mem_blksL.2 ⟨k, hk', hqk g hh⟩)
      have hgw : w'.heap[g]? = w.heap[g]? := ho g (mem_blks.2 (.inl rfl)) hgq
      rw [Pv.put_cons hk']
      show CRepT T w' S (h1.map (k :: pathN p ++ ·)) _ _ _ (.sl n (setC cells k [updC f (cellAt cells k) p]))
      rw [setC_one hc, cellAt_get hc]
      have hh := a6 k hx hk' hc
      rw [← hgen, holeAt_map_self, hk1] at hh
      have hnew := ih (q' := q') (f := f) (h1 := h1) hh hg' hk2 (List.nodup_append.1 hnd3).1 hS (fun b hb hb2 => ho b (mem_blks.2 (.inr ⟨k, hk', hb⟩)) hb2) (fun u hu => by
        have := hf u (by
          show CRepT T w S h0 ((ks.getD off .st).to p) u q (atC (cellAt cells k) p)
          rw [cellAt_get hc]; exact hu)
        have e9 : atC (.sl n cells) ((k, off) :: p) = atC cells[k] p := by
          show atC (cellAt cells k) p = _
          rw [cellAt_get hc]
        rw [e9] at this
        exact this)
      refine .node ?_ ?_ (ownsRow_frame a3 fun g' hg2 => by cases hg2; exact hgw) (by rw [List.length_set]; exact a4) (by rw [List.length_set]; exact a5) fun i i1 i2 i3 => ?_
      · cases h1 with
        | none => exact fun hh => by cases hh
        | some r => exact fun hh => by simp at hh
      · intro k2 p2 hh
        cases h1 with
        | none => cases hh
        | some r => simp only [Option.map_some, Option.some.injEq, List.cons_append, List.cons.injEq] at hh; omega
      · by_cases e1 : k = i
        · subst e1
          rw [holeAt_map_self]
          simp only [List.getElem_set_self]
          rw [hk1]; exact hnew
        · rw [holeAt_map _ e1, List.getElem_set_ne e1, List.getElem_set_ne e1]
          have hi2 : i < kids.length := by simpa using i2
          have hi3 : i < cells.length := by simpa using i3
          have := a6 i i1 hi2 hi3
          rw [← hgen, holeAt_map _ e1] at this
          refine this.frame hS (fun _ h => h) fun b hb => ho b (mem_blks.2 (.inr ⟨i, hi2, hb⟩)) fun hbq => ?_
          -- a block of two kids
          have h5 := hqk b hbq
          have : b ∈ rest := by
            have e2 : (kids.set k (.of undef))[i]'(by simpa using hi2) = kids[i] := List.getElem_set_ne e1 _
            obtain ⟨rest2, s1, s2⟩ := blksL_split hk'
            have h6 : b ∈ blksL (kids.set k (.of undef)) := mem_blksL.2 ⟨i, by simpa using hi2, by rw [e2]; exact hb⟩
            have h7 := (s2 (.of undef)).mem_iff.1 h6
            have h8 : b ∈ rest2 := by simpa [Pv.blks, blksL] using h7
            have h9 : (kids[k].blks ++ rest2).Perm (kids[k].blks ++ rest) := s1.symm.trans r1
            exact ((List.perm_append_left_iff _).1 h9).mem_iff.1 h8
          exact (List.nodup_append.1 hnd3).2.2 b h5 b this rfl
end Go.Proofs.Ytdmdcmhgfgookaa.A
