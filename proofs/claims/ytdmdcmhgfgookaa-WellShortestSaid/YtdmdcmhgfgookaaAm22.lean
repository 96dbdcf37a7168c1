/- The ghost machine, part 22: calls, with roots that are handed over. -/
import Derived.Test.YtdmdcmhgfgookaaAmN
set_option linter.unusedSimpArgs false
set_option linter.unusedVariables false
set_option maxRecDepth 100000
set_option maxHeartbeats 4000000
namespace Go.Proofs.Ytdmdcmhgfgookaa.A
open Go Go.RowKit
variable {P : Program} {T : TT} {w w' w0 : World} {S S0 : Nat → Prop} {F : Fr} {bx : Nat → Nat} {ph : Nat → Nat → Pv} {a : Act} {st st' : St}

/-! ### what is handed over -/
theorem placeIn_get : ∀ (ts : List (Option Nat)) (t : Nat), some t ∈ ts → ts[placeIn ts t]? = some (some t) := by
  intro ts t
  induction ts with
  | nil => intro h; cases h
  | cons x ts ih =>
    intro h
    cases x with
    | none =>
      simp only [placeIn]
      rw [List.getElem?_cons_succ]
      exact ih (by simpa using h)
    | some u =>
      simp only [placeIn]
      by_cases e : u = t
      · subst e; simp
      · rw [if_neg e, List.getElem?_cons_succ]
        refine ih ?_
        rcases List.mem_cons.1 h with h | h
        · cases h; exact absurd rfl e
        · exact h
theorem distinct_inj : ∀ (ts : List (Option Nat)), distinct ts = true → ∀ i j t : Nat, ts[i]? = some (some t) → ts[j]? = some (some t) → i = j := by
  intro ts
  induction ts with
  | nil => intro _ i j t h; cases h
  | cons x ts ih =>
    intro hd i j t hi hj
    have hd' : distinct ts = true := by cases x <;> simp [distinct] at hd <;> first | exact hd | exact hd.2
    cases i with
    | zero =>
      cases j with
      | zero => rfl
      | succ j =>
        exfalso
        simp only [List.getElem?_cons_zero, Option.some.injEq] at hi
        subst hi
        simp only [distinct, Bool.and_eq_true, Bool.not_eq_true'] at hd
        have : ts.contains (some t) = true := by
          rw [List.contains_iff_mem]
          exact List.mem_of_getElem? (by simpa using hj)
        rw [this] at hd; exact absurd hd.1 (by simp)
    | succ i =>
      cases j with
      | zero =>
        exfalso
        simp only [List.getElem?_cons_zero, Option.some.injEq] at hj
        subst hj
        simp only [distinct, Bool.and_eq_true, Bool.not_eq_true'] at hd
        have : ts.contains (some t) = true := by
          rw [List.contains_iff_mem]
          exact List.mem_of_getElem? (by simpa using hi)
        rw [this] at hd; exact absurd hd.1 (by simp)
      | succ j => rw [ih hd' i j t (by simpa using hi) (by simpa using hj)]
theorem uniq_mem : ∀ (l seen : List Nat) (t : Nat), t ∈ l → t ∈ seen ∨ t ∈ uniq seen l := by
  intro l
  induction l with
  | nil => intro _ _ h; cases h
  | cons x l ih =>
    intro seen t h
    unfold uniq
    by_cases hx : seen.contains x = true
    · rw [if_pos hx]
      rcases List.mem_cons.1 h with rfl | h
      · exact .inl (List.contains_iff_mem.1 hx)
      · exact ih seen t h
    · rw [if_neg hx]
      rcases List.mem_cons.1 h with rfl | h
      · exact .inr (List.mem_cons_self ..)
      · rcases ih (x :: seen) t h with h | h
        · rcases List.mem_cons.1 h with rfl | h
          · exact .inr (List.mem_cons_self ..)
          · exact .inl h
        · exact .inr (List.mem_cons_of_mem _ h)
theorem caps_in {args : List V} {t : Nat} (h : t ∈ args.flatMap capsOf) : some t ∈ tsOf args := by
  unfold tsOf
  rcases uniq_mem _ (args.filterMap ptrOf) t h with h | h
  · refine List.mem_append_left _ ?_
    obtain ⟨V, hV, he⟩ := List.mem_filterMap.1 h
    exact List.mem_map.2 ⟨V, hV, he⟩
  · exact List.mem_append_right _ (List.mem_map.2 ⟨t, h, rfl⟩)
theorem fits_get {r : List Root} : ∀ (ts : List (Option Nat)) (us : List Root), fitsR r ts us = true → us.length = ts.length ∧ ∀ k : Nat, (∀ t : Nat, ts[k]? = some (some t) → ∃ row row' : List RC, us[k]? = some (.box row) ∧ r.getD t .none = .box row' ∧ row.length = row'.length) ∧ (ts[k]? = some none → us[k]? = some Root.none) := by
  intro ts
  induction ts with
  | nil =>
    intro us h
    cases us with
    | nil => exact ⟨rfl, fun k => ⟨fun t h => by simp at h, fun h => by simp at h⟩⟩
    | cons u us => simp [fitsR] at h
  | cons x ts ih =>
    intro us h
    cases us with
    | nil => cases x <;> simp [fitsR] at h
    | cons u us =>
      cases x with
      | none =>
        cases u <;> simp only [fitsR, Bool.false_eq_true] at h
        obtain ⟨h1, h2⟩ := ih us h
        refine ⟨by simp [h1], fun k => ?_⟩
        cases k with
        | zero => exact ⟨fun t h => by simp at h, fun _ => rfl⟩
        | succ k => simpa using h2 k
      | some t0 =>
        cases u with
        | none => simp [fitsR] at h
        | loose _ => simp [fitsR] at h
        | box row =>
          simp only [fitsR, Bool.and_eq_true] at h
          obtain ⟨h1, h2⟩ := ih us h.2
          refine ⟨by simp [h1], fun k => ?_⟩
          cases k with
          | zero =>
            refine ⟨fun t ht => ?_, fun h => by simp at h⟩
            simp only [List.getElem?_cons_zero, Option.some.injEq] at ht
            subst ht
            have h3 := h.1
            unfold rootOf at h3
            split at h3
            · rename_i row' hr; exact ⟨row, row', rfl, hr, by simpa using h3⟩
            · cases h3
          | succ k => simpa using h2 k
theorem setRoots_len : ∀ (ts : List (Option Nat)) (us r : List Root), (setRoots r ts us).length = r.length := by
  intro ts
  induction ts with
  | nil => intro us r; cases us <;> rfl
  | cons x ts ih =>
    intro us r
    cases us with
    | nil => cases x <;> rfl
    | cons u us =>
      cases x with
      | none => exact ih us r
      | some t => rw [setRoots, ih]; simp
theorem setRoots_out : ∀ (ts : List (Option Nat)) (us r : List Root) (t : Nat), some t ∉ ts → (setRoots r ts us).getD t .none = r.getD t .none := by
  intro ts
  induction ts with
  | nil => intro us r t _; cases us <;> rfl
  | cons x ts ih =>
    intro us r t h
    cases us with
    | nil => cases x <;> rfl
    | cons u us =>
      have h' : some t ∉ ts := fun hh => h (List.mem_cons_of_mem _ hh)
      cases x with
      | none => exact ih us r t h'
      | some v =>
        rw [setRoots, ih us _ t h', getD_set, if_neg]
        rintro ⟨e, _⟩
        subst e
        exact h (List.mem_cons_self ..)
theorem setRoots_in : ∀ (ts : List (Option Nat)) (us r : List Root), distinct ts = true → (∀ t, some t ∈ ts → t < r.length) → ∀ (k t : Nat) (u : Root), ts[k]? = some (some t) → us[k]? = some u → (setRoots r ts us).getD t .none = u := by
  intro ts
  induction ts with
  | nil => intro us r _ _ k t u h; cases h
  | cons x ts ih =>
    intro us r hd hlt k t u hk hu
    have hd' : distinct ts = true := by cases x <;> simp [distinct] at hd <;> first | exact hd | exact hd.2
    cases us with
    | nil => cases hu
    | cons u0 us =>
      cases k with
      | zero =>
        simp only [List.getElem?_cons_zero, Option.some.injEq] at hk hu
        subst hk; subst hu
        rw [setRoots, setRoots_out, getD_set, if_pos ⟨rfl, hlt t (List.mem_cons_self ..)⟩]
        intro hm
        simp only [distinct, Bool.and_eq_true, Bool.not_eq_true'] at hd
        rw [List.contains_iff_mem.2 hm] at hd; exact absurd hd.1 (by simp)
      | succ k =>
        have hlt' : ∀ t, some t ∈ ts → t < r.length := fun t h => hlt t (List.mem_cons_of_mem _ h)
        cases x with
        | none => exact ih us r hd' hlt' k t u (by simpa using hk) (by simpa using hu)
        | some v => exact ih us (r.set v u0) hd' (fun t h => by rw [List.length_set]; exact hlt' t h) k t u (by simpa using hk) (by simpa using hu)
theorem freezeX_other (x : X) (st : St) {t : Nat} (h : rootX x ≠ some t) : (freezeX T (std P T) st x).r.getD t .none = st.r.getD t .none := by
  have key : ∀ u o, u ≠ t → (freeze T (std P T) st u o).r.getD t .none = st.r.getD t .none := fun u o hne => by
    unfold freeze
    split
    · show (setCellR st.r u o _).getD t .none = _
      rw [getD_setCell, if_neg hne]
    · split
      · show (setCellR st.r u o _).getD t .none = _
        rw [getD_setCell, if_neg hne]
      · split
        · show (setCellR st.r u o _).getD t .none = _
          rw [getD_setCell, if_neg hne]
        · rfl
  cases x <;> first | rfl | exact key _ _ (fun e => h (by subst e; rfl))
theorem freezeAll_other : ∀ (xs : List X) (st : St) {t : Nat}, (∀ x ∈ xs, rootX x ≠ some t) → (xs.foldl (freezeX T (std P T)) st).r.getD t .none = st.r.getD t .none := by
  intro xs
  induction xs with
  | nil => intro st t _; rfl
  | cons x xs ih =>
    intro st t h
    rw [List.foldl_cons, ih _ (fun y hy => h y (List.mem_cons_of_mem _ hy))]
    exact freezeX_other x st (h x (List.mem_cons_self ..))
theorem freezeAll_len (xs : List X) (st : St) : (xs.foldl (freezeX T (std P T)) st).r.length = st.r.length := by
  induction xs generalizing st with
  | nil => rfl
  | cons x xs ih =>
    rw [List.foldl_cons, ih]
    have key : ∀ u o, (freeze T (std P T) st u o).r.length = st.r.length := fun u o => by
      unfold freeze
      split
      · simp [length_setCell]
      · split
        · simp [length_setCell]
        · split
          · simp [length_setCell]
          · rfl
    cases x <;> first | rfl | exact key _ _
theorem Heap.sub {r R : List Root} (h : Heap T w S r bx ph) {τ : Nat → Option Nat} (hR : ∀ k, R.getD k .none = match τ k with | some t => r.getD t .none | none => .none) (hinj : ∀ k k' t, τ k = some t → τ k' = some t → k = k') :
    Heap T w S R (fun k => bx ((τ k).getD 0)) (fun k => ph ((τ k).getD 0)) ∧ ∀ k κ b, owns R (fun k => bx ((τ k).getD 0)) (fun k => ph ((τ k).getD 0)) k κ b → ∃ t, τ k = some t ∧ owns r bx ph t κ b := by
  have hown : ∀ k κ b, owns R (fun k => bx ((τ k).getD 0)) (fun k => ph ((τ k).getD 0)) k κ b → ∃ t, τ k = some t ∧ owns r bx ph t κ b := fun k κ b hb => by
    cases hk : τ k with
    | none => exact (owns_none _ _ _ (by rw [hR, hk]) _ _ hb).elim
    | some t =>
      refine ⟨t, rfl, ?_⟩
      unfold owns at hb ⊢
      rw [hR, hk] at hb
      simp only [hk, Option.getD_some] at hb
      exact hb
  refine ⟨⟨fun k => ?_, fun k κ k' κ' b h1 h2 => ?_, fun k κ b h1 => ?_, h.low⟩, hown⟩
  · rw [hR]
    cases hk : τ k with
    | none => trivial
    | some t => simp only [Option.getD_some]; exact h.root t
  · obtain ⟨t, a1, a2⟩ := hown k κ b h1
    obtain ⟨t', b1, b2⟩ := hown k' κ' b h2
    obtain ⟨e1, e2⟩ := h.inj _ _ _ _ b a2 b2
    subst e1
    exact ⟨hinj _ _ _ a1 b1, e2⟩
  · obtain ⟨t, _, a2⟩ := hown k κ b h1
    exact h.free t κ b a2
theorem RootRep.frame2 {S' : Nat → Prop} {b : Nat} {φ : Nat → Pv} {R : Root} (h : RootRep T w S b φ R) (hb : ∀ b, S b → w'.heap[b]? = w.heap[b]?) (hS : ∀ b, S b → S' b) (hbox : ∀ row, R = .box row → w'.heap[b]? = w.heap[b]?)
    (hc : ∀ (o : Nat) (rc : RC) (b : Nat), R.row[o]? = some rc → rc.blk (φ o) b → w'.heap[b]? = w.heap[b]?) : RootRep T w' S' b φ R := by
  cases R with
  | none => trivial
  | box row =>
    obtain ⟨⟨arr, e, h1, h2⟩, h3, h4⟩ := h
    refine ⟨⟨arr, e, (hbox row rfl).trans h1, h2⟩, ?_, h4⟩
    exact fun o ho => (h3 o ho).frame hb hS fun b hb' => hc o _ b (List.getElem?_eq_getElem ho) hb'
  | loose row => exact fun o ho => (h o ho).frame hb hS fun b hb' => hc o _ b (List.getElem?_eq_getElem ho) hb'
theorem lost_cell {ts : List (Option Nat)} {x : X} {t o : Nat} (hx : lostX ts x = false) (hc : ofCell t o x = true) : some t ∉ ts := by
  rcases ofCell_cases hc with rfl | ⟨lo, hi, rfl⟩ | ⟨k, rfl⟩ | rfl | ⟨p, rfl⟩ | ⟨p, k, off, rfl⟩ <;> (simp only [lostX, handed, rootX] at hx; intro hm; rw [List.contains_iff_mem.2 hm] at hx; cases hx)
/-- an argument, as the callee reads it -/
theorem arg_sound {S' : Nat → Prop} {ts : List (Option Nat)} {bxs : Nat → Nat} {k : Nat} {v : Value} {V1 : V} {x : Arg} (hv : VRep T w S st.r bx ph v V1) (hx : argOf T (std P T) st.r ts V1 = some x)
    (hbx : ∀ i t, ts[i]? = some (some t) → bxs i = bx t) (hcap : ∀ t ∈ capsOf V1, some t ∈ ts) (hk : ∀ t, ptrOf V1 = some t → ts[k]? = some (some t))
    (hs : ∀ y ∈ cellsOfV V1, handed ts y = false → ∀ u c, XRep T w S st.r bx ph u y → stab T (std P T) st.r y = some c → CRep w S' u c) : ArgRep w S' bxs (bxs k) v x := by
  unfold argOf at hx
  split at hx
  · cases hx
    obtain ⟨rfl, _⟩ := hv; rfl
  · rename_i f caps _
    cases hx
    obtain ⟨h1, h2⟩ := hv
    show v = _
    rw [h1, List.map_map]
    congr 2
    refine List.map_congr_left fun t ht => ?_
    show _ = Value.pointer (some ⟨bxs (placeIn ts t), 0, none⟩)
    rw [hbx _ _ (placeIn_get ts t (hcap t ht))]
  · rename_i t
    split at hx
    · rename_i row hr
      split at hx
      · cases hx
      · rename_i hne
        cases hx
        obtain ⟨row', h1, h2, h3⟩ := hv
        refine ⟨⟨row, rfl, ?_⟩, ?_⟩
        · cases row with
          | nil => exact absurd rfl hne
          | cons => simp
        · rw [h3, hbx _ _ (hk t rfl)]
    · cases hx
  · rename_i y _ _ _
    split at hx
    · cases hx; trivial
    · rename_i hh
      have hh' : handed ts y = false := by simpa using hh
      split at hx
      · rename_i c hc
        cases hx
        refine ⟨c, rfl, hs y ?_ hh' v c hv hc⟩
        cases y <;> first | exact List.mem_singleton.2 rfl | (simp [stab] at hc)
      · cases hx; trivial
  · rename_i xs
    split at hx
    · cases hx
    · rename_i hh
      split at hx
      · rename_i cs hc
        cases hx
        obtain ⟨us, rfl, h1, h2⟩ := hv
        have h3 := optAll_some _ _ hc
        have hlen : cs.length = xs.length := by have := congrArg List.length h3; simpa using this.symm
        refine ⟨us, rfl, by omega, fun k hk hk2 => ?_⟩
        have hkx : k < xs.length := by omega
        refine hs xs[k] (List.getElem_mem hkx) ?_ _ _ (h2 k hkx hk2) ?_
        · cases hq : handed ts xs[k] with
          | false => rfl
          | true => exact absurd (List.any_eq_true.2 ⟨_, List.getElem_mem hkx, hq⟩) hh
        · have := congrArg (fun l => l[k]?) h3
          simp only [List.getElem?_map, List.getElem?_eq_getElem hk, List.getElem?_eq_getElem (show k < xs.length by omega), Option.map_some, Option.some.injEq] at this
          exact this
      · cases hx
  · cases hx
theorem arg_root {r : List Root} {ts : List (Option Nat)} {V1 : V} {x : Arg} (h : argOf T (std P T) r ts V1 = some x) : x.real = true ∧ x.asRoot = match ptrOf V1 with | some t => r.getD t .none | none => .none := by
  unfold argOf at h
  split at h
  · cases h; exact ⟨rfl, rfl⟩
  · cases h; exact ⟨rfl, rfl⟩
  · rename_i t
    split at h
    · rename_i row hr
      split at h
      · cases h
      · cases h; exact ⟨rfl, hr.symm⟩
    · cases h
  · rename_i y h1 h2 h3
    have hp : ptrOf (.one y) = none := by
      unfold ptrOf
      split
      · rename_i t he; cases he; exact absurd rfl (h3 t)
      · rfl
    rw [hp]
    split at h
    · cases h; exact ⟨rfl, rfl⟩
    · split at h
      · cases h; exact ⟨rfl, rfl⟩
      · cases h; exact ⟨rfl, rfl⟩
  · split at h
    · cases h
    · split at h
      · cases h; exact ⟨rfl, rfl⟩
      · cases h
  · cases h
theorem virt_root {r : List Root} {o : Option Nat} {x : Arg} (h : virtOf r o = some x) : x.real = false ∧ ∃ t, o = some t ∧ x.asRoot = r.getD t .none := by
  unfold virtOf at h
  split at h
  · split at h
    · rename_i row hr
      split at h
      · cases h
      · cases h; exact ⟨rfl, _, rfl, hr.symm⟩
    · cases h
  · cases h
end Go.Proofs.Ytdmdcmhgfgookaa.A
