/- The ghost machine: trees turn. -/
import Derived.Test.YtdmdcmhgfgookaaAm22d
set_option linter.unusedSimpArgs false
set_option linter.unusedVariables false
set_option maxRecDepth 100000
set_option maxHeartbeats 4000000
namespace Go.Proofs.Ytdmdcmhgfgookaa.A
open Go Go.RowKit
variable {P : Program} {T : TT} {w w' w0 : World} {S S0 : Nat → Prop} {F : Fr} {bx : Nat → Nat} {ph : Nat → Nat → Pv} {a : Act} {st st' : St}

mutual
theorem Sh.same_eq : ∀ a b : Sh, a.same b = true → a = b
  | .st, .st, _ => rfl
  | .st, .sl _ _, h => by simp [Sh.same] at h
  | .sl _ _, .st, h => by simp [Sh.same] at h
  | .sl e ks, .sl e' ks', h => by
    simp only [Sh.same, Bool.and_eq_true, beq_iff_eq] at h
    rw [h.1, sameL_eq ks ks' h.2]
theorem sameL_eq : ∀ a b : List Sh, sameL a b = true → a = b
  | [], [], _ => rfl
  | [], _ :: _, h => by simp [sameL] at h
  | _ :: _, [], h => by simp [sameL] at h
  | a :: as, b :: bs, h => by
    simp only [sameL, Bool.and_eq_true] at h
    rw [Sh.same_eq a b h.1, sameL_eq as bs h.2]
end
theorem allSt_get {ks : List Sh} (h : allSt ks = true) (i : Nat) : ks.getD i .st = .st := by
  rw [List.getD_eq_getElem?_getD]
  cases hk : ks[i]? with
  | none => rfl
  | some s =>
    have := List.all_eq_true.1 h s (List.mem_of_getElem? hk)
    cases s with
    | st => rfl
    | sl => cases this
theorem blksL_rep (n : Nat) : blksL (List.replicate n (.of undef)) = [] := by
  induction n with
  | zero => rfl
  | succ n ih => rw [List.replicate_succ, blksL, ih]; rfl
/-- a root's cell, as a tree's -/
theorem toT_sound {sh : Sh} {rc : RC} {c : C} {pv : Pv} (h : RCRep T w S pv rc) (ht : toT sh rc = some c) :
    ∃ q, CRepT T w S none sh pv.v q c ∧ (∀ b, b ∈ q.blks ↔ rc.blk pv b) ∧ q.blks.Nodup := by
  cases rc with
  | st c' =>
    simp only [toT] at ht
    split at ht
    · cases ht
      exact ⟨.mk pv.v none [], .st h, fun b => by simp [Pv.blks, blksL, RC.blk], by simp [Pv.blks, blksL]⟩
    · cases ht
      have hz := crep_nil h
      refine ⟨.mk nilSl none [], by rw [hz]; exact .nil (.inl rfl), fun b => by simp [Pv.blks, blksL, RC.blk], by simp [Pv.blks, blksL]⟩
    · cases ht
  | own e n cells =>
    simp only [toT] at ht
    split at ht
    · rename_i e' ks
      split at ht
      · rename_i hc
        obtain ⟨rfl, hst⟩ := hc
        cases ht
        obtain ⟨xs, h1, h2, h3⟩ := h
        have h1' := h1
        obtain ⟨v, b0, k0⟩ := pv
        show ∃ q, CRepT T w S none _ v q _ ∧ (∀ b, b ∈ q.blks ↔ v.ownBlock = some b) ∧ _
        have h1 : w.ownsRow 0 e (szOf T e) v n xs := h1'
        rcases h1.2 with ⟨hv, hn⟩ | ⟨g, cap, cur, hv, hB, hheap, hn, hc, hs, ht⟩
        · subst hv; subst hn
          have : cells = [] := List.eq_nil_of_length_eq_zero (by rw [← h2, h1.1]; simp)
          subst this
          exact ⟨.mk nilSl none [], .nil (.inr rfl), fun b => by simp [Pv.blks, blksL, Value.ownBlock], by simp [Pv.blks, blksL]⟩
        · subst hv
          refine ⟨.mk (.slice (some ⟨g, 0, none⟩) n cap) (some g) (List.replicate xs.length (.of undef)), .node (by simp) (fun k p hh => by cases hh) h1 h2.symm (by simp) (fun k i1 i2 i3 => ?_), fun b => ?_, ?_⟩
          · rw [allSt_get hst]
            have : (List.replicate xs.length (Pv.of undef))[k] = .mk undef none [] := by simp
            rw [this]
            exact .st (h3 k i3 i1)
          · show b ∈ [g] ++ blksL _ ↔ _
            rw [blksL_rep]; simp [Value.ownBlock, eq_comm]
          · show ([g] ++ blksL _).Nodup
            rw [blksL_rep]; simp
      · cases ht
    · cases ht
  | map kk m => cases ht
  | me f => cases ht
  | dead => cases ht
  | tree sh' c' hp =>
    cases hp with
    | some p => cases ht
    | none =>
      simp only [toT] at ht
      split at ht
      · rename_i hs
        cases ht
        have := Sh.same_eq _ _ hs
        subst this
        exact ⟨pv, h.1, fun b => Iff.rfl, h.2.1⟩
      · cases ht

theorem choose_list {α : Type} {n : Nat} {R : Nat → α → Prop} (h : ∀ k, k < n → ∃ q, R k q) : ∃ qs : List α, qs.length = n ∧ ∀ k (hk : k < qs.length), R k qs[k] := by
  induction n with
  | zero => exact ⟨[], rfl, fun k hk => absurd hk (by simp)⟩
  | succ n ih =>
    obtain ⟨qs, h1, h2⟩ := ih fun k hk => h k (by omega)
    obtain ⟨q, hq⟩ := h n (by omega)
    refine ⟨qs ++ [q], by simp [h1], fun k hk => ?_⟩
    by_cases e : k < qs.length
    · rw [List.getElem_append_left e]; exact h2 k e
    · have : k = n := by simp at hk; omega
      subst this
      rw [List.getElem_append_right (by omega)]
      simpa using hq
theorem blksL_nodup {qs : List Pv} (h1 : ∀ k (h : k < qs.length), qs[k].blks.Nodup) (h2 : ∀ k k' (h : k < qs.length) (h' : k' < qs.length) (b : Nat), b ∈ qs[k].blks → b ∈ qs[k'].blks → k = k') : (blksL qs).Nodup := by
  induction qs with
  | nil => simp [blksL]
  | cons q qs ih =>
    rw [blksL, List.nodup_append]
    refine ⟨h1 0 (by simp), ih (fun k hk => h1 (k + 1) (by simpa using hk)) (fun k k' hk hk' b hb hb' => ?_), fun b hb b' hb' e => ?_⟩
    · have := h2 (k + 1) (k' + 1) (by simpa using hk) (by simpa using hk') b hb hb'
      omega
    · subst e
      obtain ⟨k, hk, hk2⟩ := mem_blksL.1 hb'
      have := h2 0 (k + 1) (by simp) (by simpa using hk) b hb hk2
      omega
theorem rowT_get {ks : List Sh} {sz off : Nat} {row : List RC} {cs : List C} (h : rowT ks sz off row = some cs) : cs.length = row.length ∧ ∀ k (h1 : k < row.length) (h2 : k < cs.length), toT (ks.getD ((off + k) % sz) .st) row[k] = some cs[k] := by
  have h2 := optAll_some _ _ h
  have hl : row.length = cs.length := by have := congrArg List.length h2; simpa using this
  refine ⟨hl.symm, fun k k1 k2 => ?_⟩
  have h3 := congrArg (fun l => l[k]?) h2
  simp only [List.getElem?_map, List.getElem?_zipIdx, List.getElem?_eq_getElem k1, List.getElem?_eq_getElem k2, Option.map_some, Option.some.injEq, Nat.zero_add] at h3
  exact h3
/-- the cells of a root, as a tree's -/
theorem rowT_sound {ks : List Sh} {sz off : Nat} {row : List RC} {cs : List C} {φ : Nat → Pv} (h : ∀ k (hk : k < row.length), RCRep T w S (φ k) row[k]) (ht : rowT ks sz off row = some cs)
    (hinj : ∀ k k' (hk : k < row.length) (hk' : k' < row.length) (b : Nat), row[k].blk (φ k) b → row[k'].blk (φ k') b → k = k') :
    ∃ qs : List Pv, qs.length = row.length ∧ cs.length = row.length ∧ (∀ k (h1 : k < qs.length) (h2 : k < cs.length), CRepT T w S none (ks.getD ((off + k) % sz) .st) (φ k).v qs[k] cs[k]) ∧
      (∀ b, b ∈ blksL qs ↔ ∃ k, ∃ hk : k < row.length, row[k].blk (φ k) b) ∧ (blksL qs).Nodup := by
  obtain ⟨hl, hg⟩ := rowT_get ht
  obtain ⟨qs, q1, q2⟩ := choose_list (n := row.length) (R := fun k q => ∃ hk : k < row.length, ∃ hk2 : k < cs.length, CRepT T w S none (ks.getD ((off + k) % sz) .st) (φ k).v q cs[k] ∧ (∀ b, b ∈ q.blks ↔ row[k].blk (φ k) b) ∧ q.blks.Nodup) fun k hk => by
    have hk2 : k < cs.length := by omega
    obtain ⟨q, a1, a2, a3⟩ := toT_sound (h k hk) (hg k hk hk2)
    exact ⟨q, hk, hk2, a1, a2, a3⟩
  refine ⟨qs, q1, hl, fun k h1 h2 => ?_, fun b => ?_, ?_⟩
  · obtain ⟨_, _, a1, _⟩ := q2 k h1; exact a1
  · rw [mem_blksL]
    constructor
    · rintro ⟨k, hk, hb⟩
      obtain ⟨a0, _, _, a2, _⟩ := q2 k hk
      exact ⟨k, a0, (a2 b).1 hb⟩
    · rintro ⟨k, hk, hb⟩
      have hk2 : k < qs.length := by omega
      obtain ⟨_, _, _, a2, _⟩ := q2 k hk2
      exact ⟨k, hk2, (a2 b).2 hb⟩
  · refine blksL_nodup (fun k hk => ?_) (fun k k' hk hk' b hb hb' => ?_)
    · obtain ⟨_, _, _, _, a3⟩ := q2 k hk; exact a3
    · obtain ⟨a0, _, _, a2, _⟩ := q2 k hk
      obtain ⟨b0, _, _, b2, _⟩ := q2 k' hk'
      exact hinj k k' a0 b0 b ((a2 b).1 hb) ((b2 b).1 hb')

/-- a new cell as the root of the moment; then named -/
theorem rc_fin (h : Rel T w0 S0 F st a w S bx ph) (hsp : st.r.getD st.s.length .none = .none) {rc : RC} {pv : Pv} {W : Nat → Prop} (hc : Chg W w w')
    (hW : ∀ b, b < w.heap.size → W b → ¬ S b ∧ (∀ t κ, ¬ owns st.r bx ph t κ b) ∧ (w0.heap.size ≤ b ∨ F b)) (hrc : RCRep T w' S pv rc)
    (hz : ∀ b, rc.blk pv b → b < w'.heap.size ∧ (w.heap.size ≤ b ∨ W b)) {dst : Option Nat} (hd : ∀ k, dst = some k → k < st.s.length) :
    Rels T w0 S0 F (fin { st with r := pushR st.r st.s.length rc } dst (fun d => .one (rcX d 0 rc))) (a.put dst pv.v) w' := by
  have h1 := h.world hc hW
  obtain ⟨h2, h3⟩ := pushOwn h1 hsp hrc (fun b hb => by
    obtain ⟨hlt, hor⟩ := hz b hb
    rcases hor with hor | hor
    · exact ⟨fun hs => absurd (h.heap.low.1 b hs) (by omega), hlt, fun t κ ho => absurd (h.heap.free t κ b ho).2 (by omega), .inl (Nat.le_trans h.chg.size hor)⟩
    · by_cases hb2 : b < w.heap.size
      · obtain ⟨q1, q2, q3⟩ := hW b hb2 hor
        exact ⟨q1, hlt, q2, q3⟩
      · exact ⟨fun hs => absurd (h.heap.low.1 b hs) hb2, hlt, fun t κ ho => absurd (h.heap.free t κ b ho).2 hb2, .inl (Nat.le_trans h.chg.size (by omega))⟩)
  refine fin_sound h2 hd (fun k bx' ph' hk e1 e2 e3 hh => ?_)
  have hcell : ((name { st with r := pushR st.r st.s.length rc } k).r.getD k .none).row[0]? = some rc := by
    rw [e3, h3]; rfl
  have e4 : ph' k 0 = pv := by
    rw [e1]; unfold phPush; rw [if_pos ⟨rfl, rfl⟩]
  have := rcX_sound (st := name { st with r := pushR st.r st.s.length rc } k) hh hcell
  rw [e4] at this
  exact this

/-- the root of the moment is dropped -/
theorem dropN_sound (h : Rel T w0 S0 F st a w S bx ph) : Rel T w0 S0 F (dropN st) a w S bx ph ∧ (dropN st).r.getD (dropN st).s.length .none = .none ∧ (dropN st).s.length = st.s.length ∧
    (∀ u, u ≠ st.s.length → (dropN st).r.getD u .none = st.r.getD u .none) ∧ ∀ t κ b, owns (dropN st).r bx ph t κ b → t ≠ st.s.length ∧ owns st.r bx ph t κ b := by
  have hN : st.s.length < st.r.length := by have := h.rsize.1; omega
  have hg : ∀ u, (dropN st).r.getD u .none = if u = st.s.length then .none else st.r.getD u .none := fun u => by
    unfold dropN
    dsimp only
    rw [getD_set]
    by_cases e : u = st.s.length
    · subst e; simp [hN]
    · rw [if_neg (fun hh => e hh.1.symm), if_neg e]
  have hown : ∀ t κ b, owns (dropN st).r bx ph t κ b → t ≠ st.s.length ∧ owns st.r bx ph t κ b := fun t κ b hb => by
    by_cases e : t = st.s.length
    · subst e; exact (owns_none _ _ _ (by rw [hg, if_pos rfl]) _ _ hb).elim
    · refine ⟨e, ?_⟩
      unfold owns at hb ⊢
      rw [hg, if_neg e] at hb; exact hb
  have hl : (dropN st).s.length = st.s.length := by simp [dropN, kill]
  refine ⟨?_, by rw [hl, hg, if_pos rfl], hl, fun u hu => by rw [hg, if_neg hu], hown⟩
  refine h.ghost (fun x => if ofRoot st.s.length x = true then .undef else x) rfl (by simp [dropN]) ⟨fun u => ?_, fun t κ t' κ' b h1 h2 => h.heap.inj _ _ _ _ b (hown t κ b h1).2 (hown t' κ' b h2).2, fun t κ b h1 => h.heap.free _ _ b (hown t κ b h1).2, h.heap.low⟩
      (fun t κ b h1 => ⟨t, κ, (hown t κ b h1).2⟩) (fun v x hx => ?_) (fun _ h => h) (fun _ h => .inl h)
  · rw [hg]; split
    · trivial
    · exact h.heap.root u
  · split
    · trivial
    · rename_i hk
      refine hx.congr (fun t o rc hc _ h1 => ?_) (fun t o he row h1 h2 => ?_) (fun f caps he t ht row h1 => ?_)
      · have n2 : t ≠ st.s.length := fun e => hk (by
          subst e
          rcases ofCell_cases hc with rfl | ⟨lo, hi, rfl⟩ | ⟨k, rfl⟩ | rfl | ⟨p, rfl⟩ | ⟨p, k, off, rfl⟩ <;> simp [ofRoot])
        refine ⟨?_, rfl⟩
        rw [hg, if_neg n2]; exact h1
      · subst he
        have n2 : t ≠ st.s.length := fun e => hk (by subst e; simp [ofRoot])
        refine ⟨row, ?_, h2, rfl⟩
        rw [hg, if_neg n2]; exact h1
      · have n2 : t ≠ st.s.length := fun e => hk (by subst e; exact ofRoot_caps he ht)
        refine ⟨row, ?_, rfl, rfl⟩
        rw [hg, if_neg n2]; exact h1

/-- a tree turns -/
theorem tree_turn (h : Rel T w0 S0 F st a w S bx ph) {t o : Nat} {sh : Sh} {c' : C} {hh' : Option Path} {pv' : Pv} {W : Nat → Prop} {rc0 : RC} (hc : (st.r.getD t .none).row[o]? = some rc0) (hcg : Chg W w w') (hW : ∀ b, W b → rc0.blk (ph t o) b)
    (hv : pv'.v = (ph t o).v) (hnew : RCRep T w' S pv' (.tree sh c' hh')) (hb : ∀ b, b ∈ pv'.blks → rc0.blk (ph t o) b ∨ (¬ S b ∧ b < w'.heap.size ∧ (∀ u κ, ¬ owns st.r bx ph u κ b) ∧ (w0.heap.size ≤ b ∨ F b))) (kp : X → Bool)
    (hkp : ∀ y v, kp y = false → ofCell t o y = true → XRep T w S st.r bx ph v y → XRep T w' S (setCellR st.r t o (.tree sh c' hh')) bx (fun u p => if u = t ∧ p = o then pv' else ph u p) v y) :
    Rel T w0 S0 F { s := kill kp st.s, r := setCellR st.r t o (.tree sh c' hh') } a w' S bx (fun u p => if u = t ∧ p = o then pv' else ph u p) ∧
      ∀ u κ b, owns (setCellR st.r t o (.tree sh c' hh')) bx (fun u p => if u = t ∧ p = o then pv' else ph u p) u κ b → (u = t ∧ κ = some o ∧ b ∈ pv'.blks) ∨ (owns st.r bx ph u κ b ∧ ¬ (u = t ∧ κ = some o)) := by
  have hin : o < (st.r.getD t .none).row.length := (List.getElem?_eq_some_iff.1 hc).1
  have hmine : ∀ b, rc0.blk (ph t o) b → owns st.r bx ph t (some o) b := fun b hb => own_blk hc hb
  have hown' : ∀ u κ b, owns (setCellR st.r t o (.tree sh c' hh')) bx (fun u p => if u = t ∧ p = o then pv' else ph u p) u κ b → (u = t ∧ κ = some o ∧ b ∈ pv'.blks) ∨ (owns st.r bx ph u κ b ∧ ¬ (u = t ∧ κ = some o)) := fun u κ b hb' => by
    cases κ with
    | none =>
      obtain ⟨row, h1, rfl⟩ := owns_box hb'
      refine .inr ⟨?_, by simp⟩
      rw [getD_setCell] at h1
      split at h1
      · rename_i e1; subst e1
        cases hR : st.r.getD t .none with
        | box row' => exact owns_of_box hR
        | none => rw [hR] at h1; cases h1
        | loose row' => rw [hR] at h1; cases h1
      · exact owns_of_box h1
    | some p =>
      obtain ⟨rc1, h1, h2⟩ := owns_cell hb'
      rw [row_setCell] at h1
      by_cases e2 : t = u
      · subst e2
        rw [if_pos rfl, List.getElem?_set] at h1
        by_cases e3 : o = p
        · subst e3
          rw [if_pos rfl, if_pos hin] at h1
          cases h1
          rw [if_pos ⟨rfl, rfl⟩] at h2
          exact .inl ⟨rfl, rfl, h2⟩
        · rw [if_neg e3] at h1
          rw [if_neg (fun hh => e3 hh.2.symm)] at h2
          exact .inr ⟨own_blk h1 h2, fun hh => e3 (by have := hh.2; simp at this; exact this.symm)⟩
      · rw [if_neg e2] at h1
        rw [if_neg (fun hh => e2 hh.1.symm)] at h2
        exact .inr ⟨own_blk h1 h2, fun hh => e2 hh.1.symm⟩
  have hS : ∀ b, S b → w'.heap[b]? = w.heap[b]? := fun b hb => hcg.block b (h.heap.low.1 b hb) fun hw => (h.heap.free _ _ _ (hmine b (hW b hw))).1 hb
  have hO : ∀ u κ b, owns st.r bx ph u κ b → ¬ (u = t ∧ κ = some o) → w'.heap[b]? = w.heap[b]? := fun u κ b hb hne => hcg.block b (h.heap.free _ _ _ hb).2 fun hw => hne (h.heap.inj _ _ _ _ b hb (hmine b (hW b hw)))
  have hlt : ∀ b, b ∈ pv'.blks → b < w'.heap.size ∧ ¬ S b ∧ (w0.heap.size ≤ b ∨ F b) := fun b hb' => by
    rcases hb b hb' with h1 | ⟨h1, h2, _, h3⟩
    · have := h.heap.free _ _ _ (hmine b h1)
      exact ⟨Nat.lt_of_lt_of_le this.2 hcg.size, this.1, h.mine _ _ _ (hmine b h1)⟩
    · exact ⟨h2, h1, h3⟩
  have hclash : ∀ u κ b, owns st.r bx ph u κ b → ¬ (u = t ∧ κ = some o) → b ∈ pv'.blks → False := fun u κ b h1 h2 h3 => by
    rcases hb b h3 with h4 | ⟨_, _, h4, _⟩
    · exact h2 (h.heap.inj _ _ _ _ b h1 (hmine b h4))
    · exact h4 u κ h1
  have hl : (kill kp st.s).length = st.s.length := by simp [kill]
  refine ⟨⟨by rw [hl]; exact h.size, ⟨by rw [hl, length_setCell]; exact h.rsize.1, fun t ht => h.rsize.2 t (by rw [hl] at ht; exact ht)⟩, h.defers, ⟨fun u => ?_, fun u κ u2 κ2 b h1 h2 => ?_, fun u κ b h1 => ?_, ⟨fun b hb => Nat.lt_of_lt_of_le (h.heap.low.1 b hb) hcg.size, h.heap.low.2.frame hS fun _ h => h⟩⟩, fun u κ b h1 => ?_, ?_, h.keep, h.new, ?_⟩, hown'⟩
  · rw [getD_setCell]
    have hr := h.heap.root u
    have hcells : ∀ p (hp : p < (st.r.getD u .none).row.length), ¬ (u = t ∧ p = o) → RCRep T w' S (ph u p) (st.r.getD u .none).row[p] := fun p hp hne => by
      have hcp : (st.r.getD u .none).row[p]? = some (st.r.getD u .none).row[p] := List.getElem?_eq_getElem hp
      exact (h.heap.cell hcp).frame hS (fun _ h => h) fun b hb => hO u (some p) b (own_blk hcp hb) fun e => hne ⟨e.1, by simpa using e.2⟩
    have hbox : ∀ row, st.r.getD u .none = .box row → w'.heap[bx u]? = w.heap[bx u]? := fun row hR => hO u none _ (owns_of_box hR) (by simp)
    by_cases e1 : t = u
    · subst e1
      rw [if_pos rfl]
      have key : ∀ row : List RC, (st.r.getD t .none).row = row → ∀ p (hp : p < (row.set o (.tree sh c' hh')).length), RCRep T w' S (if t = t ∧ p = o then pv' else ph t p) (row.set o (.tree sh c' hh'))[p] := fun row hrow p hp => by
        subst hrow
        by_cases e1 : o = p
        · subst e1; rw [if_pos ⟨rfl, rfl⟩, List.getElem_set_self]; exact hnew
        · rw [if_neg (fun hh => e1 hh.2.symm), List.getElem_set_ne e1]; exact hcells p (by simpa using hp) fun hh => e1 hh.2.symm
      cases hR : st.r.getD t .none with
      | none => trivial
      | box row =>
        rw [hR] at hr key
        obtain ⟨⟨arr, e2, h1, h2, h3⟩, _, h4⟩ := hr
        refine ⟨⟨arr, e2, (hbox row hR).trans h1, by simp [h2, Root.row], fun p hp => ?_⟩, key row rfl, fun p f hp => ?_⟩
        rotate_left
        · have hp' : (row.set o (.tree sh c' hh'))[p]? = some (.me f) := hp
          rw [List.getElem?_set] at hp'
          split at hp'
          · split at hp' <;> cases hp'
          · rename_i e3; show (if t = t ∧ p = o then pv' else ph t p).v = _; rw [if_neg (fun hh => e3 hh.2.symm)]; exact h4 p f hp'
        have hp' : p < row.length := by simpa [Root.row] using hp
        rw [h3 p hp']
        show some (ph t p).v = some (if t = t ∧ p = o then pv' else ph t p).v
        by_cases e3 : p = o
        · subst e3; rw [if_pos ⟨rfl, rfl⟩, hv]
        · rw [if_neg (fun hh => e3 hh.2)]
      | loose row => rw [hR] at key; exact key row rfl
    · rw [if_neg e1]
      have e9 : (fun p => if u = t ∧ p = o then pv' else ph u p) = ph u := by funext p; rw [if_neg (fun hh => e1 hh.1.symm)]
      rw [e9]
      cases hR : st.r.getD u .none with
      | none => trivial
      | box row =>
        rw [hR] at hr hcells
        obtain ⟨⟨arr, e2, h1, h2⟩, h3, h4⟩ := hr
        exact ⟨⟨arr, e2, (hbox row hR).trans h1, h2⟩, fun p hp => hcells p hp fun hh => e1 hh.1.symm, h4⟩
      | loose row =>
        rw [hR] at hcells
        exact fun p hp => hcells p hp fun hh => e1 hh.1.symm
  · rcases hown' u κ b h1 with ⟨rfl, rfl, a1⟩ | ⟨a1, a2⟩ <;> rcases hown' u2 κ2 b h2 with ⟨rfl, rfl, b1⟩ | ⟨b1, b2⟩
    · exact ⟨rfl, rfl⟩
    · exact (hclash _ _ _ b1 b2 a1).elim
    · exact (hclash _ _ _ a1 a2 b1).elim
    · exact h.heap.inj _ _ _ _ b a1 b1
  · rcases hown' u κ b h1 with ⟨rfl, rfl, a1⟩ | ⟨a1, a2⟩
    · exact ⟨(hlt b a1).2.1, (hlt b a1).1⟩
    · have := h.heap.free _ _ _ a1; exact ⟨this.1, Nat.lt_of_lt_of_le this.2 hcg.size⟩
  · rcases hown' u κ b h1 with ⟨rfl, rfl, a1⟩ | ⟨a1, a2⟩
    · exact (hlt b a1).2.2
    · exact h.mine _ _ _ a1
  · refine slots_map (fun x => if kp x = true then .undef else x) (fun v y hy => ?_) h.slot
    split
    · trivial
    · rename_i hk
      have hk' : kp y = false := by simpa using hk
      cases hoc : ofCell t o y with
      | true => exact hkp y v hk' hoc hy
      | false =>
        have hy' := hy.frame (w' := w') hS (fun _ h => h)
        refine hy'.congr (fun t2 o2 rc2 hc2 _ h1 => ?_) (fun t2 o2 _ row h1 h2 => ?_) (fun f caps _ t2 _ row h1 => ?_)
        · have hne : ¬ (t2 = t ∧ o2 = o) := fun e => by rw [e.1, e.2, hoc] at hc2; cases hc2
          refine ⟨?_, if_neg hne⟩
          rw [row_setCell]
          split
          · rename_i e1; subst e1
            rw [List.getElem?_set, if_neg (fun e => hne ⟨rfl, e.symm⟩)]; exact h1
          · exact h1
        · obtain ⟨row', a1, b1⟩ := box_setCell (t := t) (o := o) (rc := .tree sh c' hh') h1
          exact ⟨row', a1, by omega, rfl⟩
        · obtain ⟨row', a1, b1⟩ := box_setCell (t := t) (o := o) (rc := .tree sh c' hh') h1
          exact ⟨row', a1, b1, rfl⟩
  · refine ⟨hcg.os.trans h.chg.os, hcg.tape.trans h.chg.tape, hcg.output.trans h.chg.output, Nat.le_trans h.chg.size hcg.size, fun b hb hF => ?_⟩
    rw [hcg.block b (Nat.lt_of_lt_of_le hb h.chg.size) fun e => by
      rcases h.mine _ _ _ (hmine b (hW b e)) with h1 | h1
      · omega
      · exact hF h1]
    exact h.chg.block b hb hF
/-- what is seen of a tree from further out, when something further in turns -/
theorem view_stays {t o : Nat} {sh : Sh} {c c' : C} {hh hh' : Option Path} {r : List Root} {p : Path} {q q' : Pv} (hc : (r.getD t .none).row[o]? = some (.tree sh c hh)) (hg : (ph t o).get? p = some q) {m : Nat}
    (hm : ∀ p' : Path, p'.length < m → p'.length < p.length ∨ (p'.length = p.length ∧ q'.v = q.v ∧ q'.b = q.b)) {y : X} {v : Value} (hy : XRep T w S r bx ph v y) (hoc : ofCell t o y = true) (hk : ofKid t o m y = false) :
    XRep T w' S (setCellR r t o (.tree sh c' hh')) bx (fun u p' => if u = t ∧ p' = o then (ph t o).put p q' else ph u p') v y := by
  have hin : o < (r.getD t .none).row.length := (List.getElem?_eq_some_iff.1 hc).1
  have hnew : ((setCellR r t o (.tree sh c' hh')).getD t .none).row[o]? = some (.tree sh c' hh') := by
    rw [row_setCell, if_pos rfl, List.getElem?_set, if_pos rfl, if_pos hin]
  rcases ofCell_cases hoc with rfl | ⟨lo, hi, rfl⟩ | ⟨k, rfl⟩ | rfl | ⟨p', rfl⟩ | ⟨p', k, off, rfl⟩
  · obtain ⟨_, _, _, h1, _⟩ := hy; rw [hc] at h1; cases h1
  · obtain ⟨_, _, _, _, _, _, h1, _⟩ := hy; rw [hc] at h1; cases h1
  · obtain ⟨_, _, _, _, _, h1, _⟩ := hy; rw [hc] at h1; cases h1
  · obtain ⟨_, _, h1, _⟩ := hy; rw [hc] at h1; cases h1
  · obtain ⟨sh1, c1, hh1, q1, h1, h2, h3, h4, h5, h6⟩ := hy
    rw [hc] at h1; cases h1
    have hlen : p'.length < m := by simpa [ofKid] using hk
    obtain ⟨q2, k1, k2, k3⟩ := Pv.put_get p' p hg h2 (hm p' hlen)
    exact ⟨sh, c', hh', q2, hnew, by show (if t = t ∧ o = o then (ph t o).put p q' else ph t o).get? p' = some q2; rw [if_pos ⟨rfl, rfl⟩]; exact k1, h3, h4, fun hb => by rw [k2]; exact h5 (by rw [← k3]; exact hb), by rw [k2]; exact h6⟩
  · obtain ⟨sh1, c1, hh1, q1, e, ks, g, n, cap, h1, h2, h3, h4, h5, h6, h7, h8⟩ := hy
    rw [hc] at h1; cases h1
    have hlen : p'.length < m := by simpa [ofKid] using hk
    obtain ⟨q2, k1, k2, k3⟩ := Pv.put_get p' p hg h2 (hm p' hlen)
    exact ⟨sh, c', hh', q2, e, ks, g, n, cap, hnew, by show (if t = t ∧ o = o then (ph t o).put p q' else ph t o).get? p' = some q2; rw [if_pos ⟨rfl, rfl⟩]; exact k1, h3, h4, by rw [k3]; exact h5, by rw [k2]; exact h6, h7, h8⟩
end Go.Proofs.Ytdmdcmhgfgookaa.A
