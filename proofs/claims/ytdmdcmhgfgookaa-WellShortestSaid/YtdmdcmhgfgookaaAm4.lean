/- The ghost machine, part 4: what moves without the world keeps the meaning. -/
import Derived.Test.YtdmdcmhgfgookaaAm3
set_option linter.unusedSimpArgs false
set_option linter.unusedVariables false
set_option maxRecDepth 100000
set_option maxHeartbeats 4000000
namespace Go.Proofs.Ytdmdcmhgfgookaa.A
open Go
variable {T : TT} {w w0 : World} {S S0 : Nat → Prop} {F : Fr} {r : List Root} {bx : Nat → Nat} {ph : Nat → Nat → Pv}

theorem getD_set {α : Type} (l : List α) (i k : Nat) (a d : α) : (l.set i a).getD k d = if i = k ∧ i < l.length then a else l.getD k d := by
  simp only [List.getD_eq_getElem?_getD, List.getElem?_set]
  by_cases h : i = k
  · subst h
    by_cases h2 : i < l.length
    · simp [h2]
    · simp [h2]
  · simp [h]

/-- a change of roots that leaves the cells that x speaks of as they are -/
theorem XRep.congr {r' : List Root} {bx' : Nat → Nat} {ph' : Nat → Nat → Pv} {v : Value} {x : X} (h : XRep T w S r bx ph v x)
    (hv : ∀ t o rc, (ofCell t o x = true) → rc.owner = true → (r.getD t .none).row[o]? = some rc → (r'.getD t .none).row[o]? = some rc ∧ ph' t o = ph t o)
    (hp : ∀ t o, x = .ptr t o → ∀ row, r.getD t .none = .box row → o < row.length → ∃ row', r'.getD t .none = .box row' ∧ o < row'.length ∧ bx' t = bx t)
    (hf : ∀ f caps, x = .fn f caps ∨ (∃ t, x = .bfn f t ∧ caps = [t]) → ∀ t ∈ caps, ∀ row, r.getD t .none = .box row → ∃ row', r'.getD t .none = .box row' ∧ row'.length = row.length ∧ bx' t = bx t) :
    XRep T w S r' bx' ph' v x := by
  cases x with
  | c c => exact h
  | view t o =>
    obtain ⟨e, n, cells, h1, h2⟩ := h
    obtain ⟨a, b⟩ := hv t o _ (by simp [ofCell]) rfl h1
    exact ⟨e, n, cells, a, h2.trans (congrArg Pv.v b.symm)⟩
  | mv t o =>
    obtain ⟨kk, m, h1, h2⟩ := h
    obtain ⟨a, b⟩ := hv t o _ (by simp [ofCell]) rfl h1
    exact ⟨kk, m, a, h2.trans (congrArg Pv.v b.symm)⟩
  | sub t o lo hi =>
    obtain ⟨e, n, cells, aa, cap, a', h1, h2, h3⟩ := h
    obtain ⟨a, b⟩ := hv t o _ (by simp [ofCell]) rfl h1
    exact ⟨e, n, cells, aa, cap, a', a, (congrArg Pv.v b).trans h2, h3⟩
  | ptr t o =>
    obtain ⟨row, h1, h2, h3⟩ := h
    obtain ⟨row', a, b, c⟩ := hp t o rfl row h1 h2
    exact ⟨row', a, b, by rw [c]; exact h3⟩
  | eptr t o k =>
    obtain ⟨e, n, cells, g, cap, h1, h2, h3⟩ := h
    obtain ⟨a, b⟩ := hv t o _ (by simp [ofCell]) rfl h1
    exact ⟨e, n, cells, g, cap, a, (congrArg Pv.v b).trans h2, h3⟩
  | tv t o p =>
    obtain ⟨sh, c, hh, q, h1, h2⟩ := h
    obtain ⟨a, b⟩ := hv t o _ (by simp [ofCell]) rfl h1
    exact ⟨sh, c, hh, q, a, by rw [b]; exact h2⟩
  | tp t o p k off =>
    obtain ⟨sh, c, hh, q, e, ks, g, n, cap, h1, h2⟩ := h
    obtain ⟨a, b⟩ := hv t o _ (by simp [ofCell]) rfl h1
    exact ⟨sh, c, hh, q, e, ks, g, n, cap, a, by rw [b]; exact h2⟩
  | mem cells off => exact h
  | fn f caps =>
    obtain ⟨h1, h2⟩ := h
    refine ⟨?_, fun t ht => ?_⟩
    · rw [h1]; congr 2
      apply List.map_congr_left
      intro t ht
      obtain ⟨row, a, b⟩ := h2 t ht
      obtain ⟨_, _, _, c⟩ := hf f caps (.inl rfl) t ht row a
      rw [c]
    · obtain ⟨row, a, b⟩ := h2 t ht
      obtain ⟨row', a', b', _⟩ := hf f caps (.inl rfl) t ht row a
      exact ⟨row', a', by omega⟩
  | bfn f t =>
    obtain ⟨⟨row, a, b⟩, h2⟩ := h
    obtain ⟨row', a', b', c⟩ := hf f [t] (.inr ⟨t, rfl, rfl⟩) t (List.mem_singleton.2 rfl) row a
    exact ⟨⟨row', a', by omega⟩, by rw [c]; exact h2⟩
  | undef => trivial

theorem ofRoot_caps {x : X} {f : FuncId} {caps : List Nat} {t : Nat} (he : x = .fn f caps ∨ ∃ u, x = .bfn f u ∧ caps = [u]) (ht : t ∈ caps) : ofRoot t x = true := by
  rcases he with rfl | ⟨u, rfl, rfl⟩
  · simp [ofRoot, ht]
  · rw [List.mem_singleton.1 ht]; simp [ofRoot]

theorem XRep.frame {w' : World} {S' : Nat → Prop} {v : Value} {x : X} (h : XRep T w S r bx ph v x) (hb : ∀ b, S b → w'.heap[b]? = w.heap[b]?) (hS : ∀ b, S b → S' b) : XRep T w' S' r bx ph v x := by
  cases x with
  | c c => exact CRep.frame h hb hS
  | mem cells off =>
    obtain ⟨b, base, vs, h1, h2, h3, h4⟩ := h
    exact ⟨b, base, vs, h1, hS _ h2, fun k hk => (World.cell?_of_block (hb _ h2)).trans (h3 k hk), fun k hk => (h4 k hk).frame hb hS⟩
  | _ => exact h

theorem VRep.map {w' : World} {S' : Nat → Prop} {r' : List Root} {bx' : Nat → Nat} {ph' : Nat → Nat → Pv} (f : X → X)
    (hf : ∀ v x, XRep T w S r bx ph v x → XRep T w' S' r' bx' ph' v (f x)) {v : Value} {V : V} (h : VRep T w S r bx ph v V) : VRep T w' S' r' bx' ph' v (mapV f V) := by
  have hxs : ∀ cs xs, XsRep T w S r bx ph cs xs → XsRep T w' S' r' bx' ph' cs (xs.map f) := fun cs xs hx =>
    ⟨by rw [List.length_map]; exact hx.1, fun k hk hk2 => by rw [List.getElem_map]; exact hf _ _ (hx.2 k (by simpa using hk) hk2)⟩
  cases V with
  | one x => exact hf _ _ h
  | agg xs =>
    obtain ⟨cs, h1, h2⟩ := h
    exact ⟨cs, h1, hxs _ _ h2⟩
  | tup vs =>
    obtain ⟨us, h1, h2, h3⟩ := h
    refine ⟨us, h1, by simp [h2], fun k hk hk2 => ?_⟩
    have hk' : k < vs.length := by simpa using hk
    have := h3 k hk' hk2
    rw [List.getElem_map]
    unfold PartRep at *
    dsimp only
    split
    · rename_i hb
      rw [if_pos hb] at this
      obtain ⟨cs, a, b⟩ := this
      exact ⟨cs, a, hxs _ _ b⟩
    · rename_i hb
      rw [if_neg hb] at this
      obtain ⟨x, a, b⟩ := this
      exact ⟨f x, by rw [a]; rfl, hf _ _ b⟩
  | undef => trivial
  | nop => exact h

theorem mapV_id (V : V) : mapV (fun x => x) V = V := by
  cases V <;> simp [mapV]
theorem VRep.mono {w' : World} {S' : Nat → Prop} {r' : List Root} {bx' : Nat → Nat} {ph' : Nat → Nat → Pv}
    (hf : ∀ v x, XRep T w S r bx ph v x → XRep T w' S' r' bx' ph' v x) {v : Value} {V : V} (h : VRep T w S r bx ph v V) : VRep T w' S' r' bx' ph' v V := by
  have := VRep.map (fun x => x) hf h
  rwa [mapV_id] at this

theorem slots_map {a : Act} {s : List V} {w' : World} {S' : Nat → Prop} {r' : List Root} {bx' : Nat → Nat} {ph' : Nat → Nat → Pv} (f : X → X)
    (hf : ∀ v x, XRep T w S r bx ph v x → XRep T w' S' r' bx' ph' v (f x))
    (h : ∀ i, i < s.length → VRep T w S r bx ph (a.tmps.getD i undef) (s.getD i .undef)) :
    ∀ i, i < (s.map (mapV f)).length → VRep T w' S' r' bx' ph' (a.tmps.getD i undef) ((s.map (mapV f)).getD i .undef) := by
  intro i hi
  have hi' : i < s.length := by simpa using hi
  have := VRep.map f hf (h i hi')
  simp only [List.getD_eq_getElem?_getD, List.getElem?_map] at *
  rw [List.getElem?_eq_getElem hi'] at this ⊢
  exact this

theorem mem_blksL {b : Nat} {ks : List Pv} : b ∈ blksL ks ↔ ∃ k, ∃ h : k < ks.length, b ∈ ks[k].blks := by
  induction ks with
  | nil => simp [blksL]
  | cons q ks ih =>
    rw [blksL, List.mem_append, ih]
    constructor
    · rintro (h | ⟨k, hk, h⟩)
      · exact ⟨0, by simp, h⟩
      · exact ⟨k + 1, by simpa using hk, h⟩
    · rintro ⟨k, hk, h⟩
      cases k with
      | zero => exact .inl h
      | succ k => exact .inr ⟨k, by simpa using hk, h⟩
theorem mem_blks {b : Nat} {v : Value} {g : Option Nat} {ks : List Pv} : b ∈ (Pv.mk v g ks).blks ↔ g = some b ∨ ∃ k, ∃ h : k < ks.length, b ∈ ks[k].blks := by
  rw [Pv.blks, List.mem_append, mem_blksL]
  cases g <;> simp [eq_comm]
theorem ownsRow_frame {w' : World} {b : Nat} {e : TypeId} {sz n : Nat} {v : Value} {xs : List Value} (h : w.ownsRow b e sz v n xs) (ho : ∀ g, v.ownBlock = some g → w'.heap[g]? = w.heap[g]?) : w'.ownsRow b e sz v n xs := by
  refine ⟨h.1, ?_⟩
  rcases h.2 with h | ⟨g, cap, cur, rfl, hB, hheap, hr⟩
  · exact .inl h
  · exact .inr ⟨g, cap, cur, rfl, hB, (ho g rfl).trans hheap, hr⟩
theorem CRepT.frame {w' : World} {S' : Nat → Prop} {hp : Option (List Nat)} {sh : Sh} {v : Value} {pv : Pv} {c : C} (h : CRepT T w S hp sh v pv c) (hb : ∀ b, S b → w'.heap[b]? = w.heap[b]?) (hS : ∀ b, S b → S' b)
    (ho : ∀ b, b ∈ pv.blks → w'.heap[b]? = w.heap[b]?) : CRepT T w' S' hp sh v pv c := by
  induction h with
  | st h => exact .st (h.frame hb hS)
  | nil h => exact .nil h
  | hole => exact .hole
  | node h1 h2 h3 h4 h5 _ ih =>
    refine .node h1 h2 (ownsRow_frame h3 fun g hg => ho g (mem_blks.2 (.inl (by simpa [Value.ownBlock] using hg)))) h4 h5 fun k k1 k2 k3 => ih k k1 k2 k3 fun b hb' => ho b (mem_blks.2 (.inr ⟨k, k2, hb'⟩))
theorem RCRep.frame {w' : World} {S' : Nat → Prop} {v : Pv} {rc : RC} (h : RCRep T w S v rc) (hb : ∀ b, S b → w'.heap[b]? = w.heap[b]?) (hS : ∀ b, S b → S' b)
    (ho : ∀ b, rc.blk v b → w'.heap[b]? = w.heap[b]?) : RCRep T w' S' v rc := by
  cases rc with
  | st c => exact CRep.frame h hb hS
  | own e n cells =>
    obtain ⟨xs, h1, h2, h3⟩ := h
    exact ⟨xs, ownsRow_frame h1 ho, h2, fun k hk hk2 => (h3 k hk hk2).frame hb hS⟩
  | map kk m =>
    obtain ⟨b, hv, h1⟩ := h
    exact ⟨b, hv, h1.frame hb hS (ho b (by show ownB v.v = some b; rw [hv]; rfl))⟩
  | tree sh c hp => exact ⟨h.1.frame hb hS ho, h.2⟩
  | me f => trivial
  | dead => trivial

theorem Root.row_none : Root.none.row = [] := rfl
theorem owns_none (bx : Nat → Nat) (ph : Nat → Nat → Pv) (t : Nat) (h : r.getD t .none = .none) (κ : Option Nat) (b : Nat) : ¬ owns r bx ph t κ b := by
  cases κ with
  | none => unfold owns; rw [h]; exact fun h => h
  | some o => unfold owns ownOf; rw [h]; exact fun h => h

/-- roots in another world: the stable blocks and the owned ones are as they were -/
theorem Heap.frame {w' : World} {S' : Nat → Prop} (h : Heap T w S r bx ph) (hb : ∀ b, S b → w'.heap[b]? = w.heap[b]?) (hS : ∀ b, S b → S' b)
    (ho : ∀ t κ b, owns r bx ph t κ b → w'.heap[b]? = w.heap[b]?) (hsz : w.heap.size ≤ w'.heap.size) (hn : ∀ t κ b, owns r bx ph t κ b → ¬ S' b) (hl : ∀ b, S' b → b < w'.heap.size) : Heap T w' S' r bx ph := by
  refine ⟨fun t => ?_, h.inj, fun t κ b hb' => ⟨hn t κ b hb', Nat.lt_of_lt_of_le (h.free t κ b hb').2 hsz⟩, ⟨hl, h.low.2.frame hb hS⟩⟩
  have hr := h.root t
  have hcell : ∀ o (ho' : o < (r.getD t .none).row.length), RCRep T w S (ph t o) (r.getD t .none).row[o] → RCRep T w' S' (ph t o) (r.getD t .none).row[o] := fun o ho' hrc =>
    hrc.frame hb hS fun b hb' => ho t (some o) b (by
      simp only [owns, ownOf, List.getElem?_eq_getElem ho']
      exact hb')
  cases hR : r.getD t .none with
  | none => trivial
  | box row =>
    rw [hR] at hr hcell
    obtain ⟨⟨arr, e, h1, h2⟩, h3⟩ := hr
    exact ⟨⟨arr, e, (ho t none (bx t) (by unfold owns; rw [hR])).trans h1, h2⟩, fun o ho' => hcell o ho' (h3.1 o ho'), h3.2⟩
  | loose row =>
    rw [hR] at hr hcell
    exact fun o ho' => hcell o ho' (hr o ho')
end Go.Proofs.Ytdmdcmhgfgookaa.A
