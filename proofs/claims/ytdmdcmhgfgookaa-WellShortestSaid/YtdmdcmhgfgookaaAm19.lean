/- The ghost machine, part 19: stores. -/
import Derived.Test.YtdmdcmhgfgookaaAm18
set_option linter.unusedSimpArgs false
set_option linter.unusedVariables false
set_option maxRecDepth 100000
set_option maxHeartbeats 4000000
namespace Go.Proofs.Ytdmdcmhgfgookaa.A
open Go Go.RowKit
variable {P : Program} {T : TT} {w w' w0 : World} {S S0 : Nat → Prop} {F : Fr} {bx : Nat → Nat} {ph : Nat → Nat → Pv} {a : Act} {st st' : St}

theorem run_store_at (hT : TOk P T) {t : TypeId} {ti : TI} (ht : T t = some ti) {g o : Nat} {e : TypeId} {cur : Array Value} {x : Value} (hg : w.heap[g]? = some (.cells cur e (0, 0))) (hx : x.cells.size = ti.size) (hle : o + ti.size ≤ cur.size) (h1 : ∀ v ∈ x.cells.toList, v.oneCell' = true) :
    (Instr.storeAt t (.pointer (some ⟨g, o, none⟩)) x).run P w = .ok () (w.setRow g (cur.toList.take o ++ x.cells.toList ++ cur.toList.drop (o + ti.size)).toArray) := by
  have hc := run_storeCells_at (P := P) g o e x.cells.toList 0 cur w hg (by rw [Nat.add_zero, Array.length_toList, hx]; exact hle) h1
  simp only [Nat.add_zero, Array.length_toList, hx] at hc
  have hsz := run_sizeOf hT ht w
  simp only [Instr.storeAt, Instr.sureAddr, storeVar, Sem.run_bind, Sem.run_pure, Result.andThen_ok, hsz, hx, ne_eq, not_true_eq_false, if_false]
  exact hc

theorem chg_setRow (g : Nat) (cs : Array Value) : Chg (fun b => b = g) w (w.setRow g cs) :=
  ⟨rfl, rfl, rfl, by simp [World.setRow], fun k _ hk => setRow_other w g k cs hk⟩

theorem xs_one (h : Heap T w S st.r bx ph) {vs : Array Value} {xs : List X} (hx : XsRep T w S st.r bx ph vs xs) (hnu : ∀ x ∈ xs, x ≠ .undef) : ∀ v ∈ vs.toList, v.oneCell' = true := by
  intro v hv
  obtain ⟨k, hk, rfl⟩ := List.mem_iff_getElem.1 hv
  have hk2 : k < vs.size := by simpa using hk
  have hk1 : k < xs.length := by rw [← hx.1]; exact hk2
  have h1 := hx.2 k hk1 hk2
  have hne := hnu xs[k] (List.getElem_mem hk1)
  simp only [Array.getElem_toList]
  revert h1 hne
  generalize xs[k] = x
  generalize vs[k] = u
  intro h1 hne
  cases x with
  | c c => exact crep_one h1
  | mv t o =>
    obtain ⟨kk, m, q1, rfl⟩ := h1
    obtain ⟨b, q, _⟩ := h.cell q1
    rw [q]; rfl
  | view t o =>
    obtain ⟨e, n, cells, q1, rfl⟩ := h1
    rcases own_form (h.cell q1) with ⟨q, _⟩ | ⟨g, cap, q, _⟩ <;> (rw [q]; rfl)
  | sub t o lo hi => obtain ⟨_, _, _, _, _, _, _, _, _, _, rfl, _⟩ := h1; rfl
  | ptr t o => obtain ⟨_, _, _, rfl⟩ := h1; rfl
  | eptr t o k => obtain ⟨_, _, _, _, _, _, _, rfl⟩ := h1; rfl
  | mem cells off => obtain ⟨_, _, _, rfl, _⟩ := h1; rfl
  | fn f caps => obtain ⟨rfl, _⟩ := h1; rfl
  | bfn f t => obtain ⟨_, rfl⟩ := h1; rfl
  | tv t o p => obtain ⟨_, _, _, rfl⟩ := tv_slice h h1; rfl
  | tp t o p k off => obtain ⟨_, _, _, _, _, _, _, _, _, _, _, _, _, _, _, _, rfl⟩ := h1; rfl
  | undef => exact absurd rfl hne

theorem stab_nu {r : List Root} {xs : List X} {cs : List C} (h : optAll (xs.map (stab T (std P T) r)) = some cs) : ∀ x ∈ xs, x ≠ .undef := by
  intro x hx he
  subst he
  have h1 := optAll_some _ _ h
  have : (none : Option C) ∈ cs.map some := by
    rw [← h1]; exact List.mem_map.2 ⟨.undef, hx, rfl⟩
  simp at this
theorem push_nu : ∀ (xs : List X) (st st' : St), pushAll T (std P T) st xs = some st' → ∀ x ∈ xs, x ≠ .undef := by
  intro xs
  induction xs with
  | nil => intro st st' _ x hx; cases hx
  | cons y ys ih =>
    intro st st' h x hx he
    subst he
    unfold pushAll at h
    split at h
    · cases h
    · split at h
      · rename_i st1 h1
        rcases List.mem_cons.1 hx with rfl | hx
        · cases h1
        · exact ih st1 st' h _ hx rfl
      · cases h

/-- a world that turns at one owned block: all roots but its own are as they were -/
theorem Heap.write (h : Heap T w S st.r bx ph) {t' g : Nat} {κ : Option Nat} (hg : owns st.r bx ph t' κ g) (hc : Chg (fun b => b = g) w w') :
    (∀ b, S b → w'.heap[b]? = w.heap[b]?) ∧ (∀ t κ' b, owns st.r bx ph t κ' b → b ≠ g → w'.heap[b]? = w.heap[b]?) ∧ ∀ u, u ≠ t' → RootRep T w' S (bx u) (ph u) (st.r.getD u .none) := by
  have hS : ∀ b, S b → w'.heap[b]? = w.heap[b]? := fun b hb => hc.block b (h.low.1 b hb) fun e => by subst e; exact (h.free _ _ _ hg).1 hb
  have hO : ∀ t κ' b, owns st.r bx ph t κ' b → b ≠ g → w'.heap[b]? = w.heap[b]? := fun t κ' b hb hne => hc.block b (h.free _ _ _ hb).2 hne
  refine ⟨hS, hO, fun u hu => ?_⟩
  have hr := h.root u
  have hne : ∀ κ' b, owns st.r bx ph u κ' b → b ≠ g := fun κ' b hb e => by subst e; exact hu (h.inj _ _ _ _ _ hb hg).1
  have hcell : ∀ o (ho : o < (st.r.getD u .none).row.length), RCRep T w S (ph u o) (st.r.getD u .none).row[o] → RCRep T w' S (ph u o) (st.r.getD u .none).row[o] := fun o ho hrc =>
    hrc.frame hS (fun _ h => h) fun b hb => by
      have : owns st.r bx ph u (some o) b := by
        unfold owns ownOf
        dsimp only
        rw [List.getElem?_eq_getElem ho]
        revert hb
        cases (st.r.getD u .none).row[o] <;> intro hb <;> first | exact hb | cases hb
      exact hO u (some o) b this (hne _ b this)
  cases hR : st.r.getD u .none with
  | none => trivial
  | box row =>
    rw [hR] at hr hcell
    obtain ⟨⟨arr, e, h1, h2⟩, h3⟩ := hr
    have hob : owns st.r bx ph u none (bx u) := owns_of_box hR
    exact ⟨⟨arr, e, (hO u none _ hob (hne _ _ hob)).trans h1, h2⟩, fun o ho => hcell o ho (h3.1 o ho), h3.2⟩
  | loose row =>
    rw [hR] at hr hcell
    exact fun o ho => hcell o ho (hr o ho)

theorem chg_mine (h : Rel T w0 S0 F st a w S bx ph) {t' g : Nat} {κ : Option Nat} (hg : owns st.r bx ph t' κ g) (hc : Chg (fun b => b = g) w w') : Chg F.on w0 w' := by
  refine ⟨hc.os.trans h.chg.os, hc.tape.trans h.chg.tape, hc.output.trans h.chg.output, Nat.le_trans h.chg.size hc.size, fun b hb hF => ?_⟩
  rw [hc.block b (Nat.lt_of_lt_of_le hb h.chg.size) fun e => by
    subst e
    rcases h.mine _ _ _ hg with h1 | h1
    · omega
    · exact hF h1]
  exact h.chg.block b hb hF

theorem spl_get {α : Type} {l us : List α} {k m : Nat} (hm : us.length = m) (h : k + m ≤ l.length) (j : Nat) : (l.take k ++ us ++ l.drop (k + m))[j]? = if k ≤ j ∧ j < k + m then us[j - k]? else l[j]? := by
  subst hm
  have hk : (l.take k).length = k := by rw [List.length_take]; omega
  have hk2 : (l.take k ++ us).length = k + us.length := by rw [List.length_append, hk]
  by_cases h1 : j < k
  · rw [if_neg (by omega), List.getElem?_append_left (by omega), List.getElem?_append_left (by omega), List.getElem?_take, if_pos h1]
  · by_cases h2 : j < k + us.length
    · rw [if_pos ⟨by omega, h2⟩, List.getElem?_append_left (by omega), List.getElem?_append_right (by omega), hk]
    · rw [if_neg (by omega), List.getElem?_append_right (by omega), hk2, List.getElem?_drop]
      congr 1; omega
theorem spl_length {α : Type} {l us : List α} {k m : Nat} (hm : us.length = m) (h : k + m ≤ l.length) : (l.take k ++ us ++ l.drop (k + m)).length = l.length := by
  simp only [List.length_append, List.length_take, List.length_drop]; omega
theorem get_of {α : Type} {l : List α} {j : Nat} (h : j < l.length) {v : α} (e : l[j]? = some v) : l[j] = v := by
  rw [List.getElem?_eq_getElem h] at e; exact Option.some.inj e
/-- a change of what the owning cells read as, only -/
theorem XRep.congr2 {r r' : List Root} {v : Value} {x : X} (h : XRep T w S r bx ph v x)
    (hv : ∀ (t o : Nat) (e : TypeId) (n : Nat) (cells : List C), (r.getD t .none).row[o]? = some (RC.own e n cells) → ∃ cells' : List C, (r'.getD t .none).row[o]? = some (RC.own e n cells'))
    (hm : ∀ (t o : Nat) (kk : KK) (m : GM), (r.getD t .none).row[o]? = some (RC.map kk m) → ∃ kk' m', (r'.getD t .none).row[o]? = some (RC.map kk' m'))
    (ht : ∀ (t o : Nat) (sh : Sh) (c : C) (p : Option Path), (r.getD t .none).row[o]? = some (RC.tree sh c p) → ∃ c' p', (r'.getD t .none).row[o]? = some (RC.tree sh c' p'))
    (hp : ∀ (t : Nat) (row : List RC), r.getD t .none = .box row → ∃ row' : List RC, r'.getD t .none = .box row' ∧ row'.length = row.length) : XRep T w S r' bx ph v x := by
  cases x with
  | c c => exact h
  | mv t o =>
    obtain ⟨kk, m, h1, h2⟩ := h
    obtain ⟨kk', m', h3⟩ := hm t o kk m h1
    exact ⟨kk', m', h3, h2⟩
  | view t o =>
    obtain ⟨e, n, cells, h1, h2⟩ := h
    obtain ⟨cells', h3⟩ := hv t o e n cells h1
    exact ⟨e, n, cells', h3, h2⟩
  | sub t o lo hi =>
    obtain ⟨e, n, cells, aa, cap, a', h1, h2⟩ := h
    obtain ⟨cells', h3⟩ := hv t o e n cells h1
    exact ⟨e, n, cells', aa, cap, a', h3, h2⟩
  | ptr t o =>
    obtain ⟨row, h1, h2, h3⟩ := h
    obtain ⟨row', a, b⟩ := hp t row h1
    exact ⟨row', a, by omega, h3⟩
  | eptr t o k =>
    obtain ⟨e, n, cells, g, cap, h1, h2⟩ := h
    obtain ⟨cells', h3⟩ := hv t o e n cells h1
    exact ⟨e, n, cells', g, cap, h3, h2⟩
  | tv t o p =>
    obtain ⟨sh, c, hh, q, h1, h2⟩ := h
    obtain ⟨c', p', h3⟩ := ht t o sh c hh h1
    exact ⟨sh, c', p', q, h3, h2⟩
  | tp t o p k off =>
    obtain ⟨sh, c, hh, q, e, ks, g, n, cap, h1, h2⟩ := h
    obtain ⟨c', p', h3⟩ := ht t o sh c hh h1
    exact ⟨sh, c', p', q, e, ks, g, n, cap, h3, h2⟩
  | mem cells off => exact h
  | fn f caps =>
    obtain ⟨h1, h2⟩ := h
    exact ⟨h1, fun t ht => by
      obtain ⟨row, a, b⟩ := h2 t ht
      obtain ⟨row', a', b'⟩ := hp t row a
      exact ⟨row', a', by omega⟩⟩
  | bfn f t =>
    obtain ⟨⟨row, a, b⟩, h2⟩ := h
    obtain ⟨row', a', b'⟩ := hp t row a
    exact ⟨⟨row', a', by omega⟩, h2⟩
  | undef => trivial

/-- what a root's cell owns is written: the rest means what it meant -/
theorem cell_write {S' : Nat → Prop} {st1 : St} (hf : Rel T w0 S0 F st1 a w S' bx ph) {t' o g : Nat} {rc rc' : RC} (hc : (st1.r.getD t' .none).row[o]? = some rc) (hb : rc'.blk (ph t' o) = rc.blk (ph t' o))
    (k1 : ∀ e n cells, rc = .own e n cells → ∃ cells', rc' = .own e n cells') (k2 : ∀ kk m, rc = .map kk m → ∃ kk' m', rc' = .map kk' m') (k3 : ∀ sh c p, rc = .tree sh c p → ∃ c' p', rc' = .tree sh c' p') (hog : owns st1.r bx ph t' (some o) g) (hcg : Chg (fun b => b = g) w w') (hnew : RCRep T w' S' (ph t' o) rc') :
    Rel T w0 S0 F { st1 with r := setCellR st1.r t' o rc' } a w' S' bx ph := by
  obtain ⟨hS, hO, hR⟩ := hf.heap.write hog hcg
  have hme : rc'.isMe = false := by
    obtain ⟨rc2, m1, m2⟩ := owns_cell hog
    rw [hc] at m1; cases m1
    rw [← hb] at m2
    cases rc' <;> first | rfl | exact m2.elim
  have hin : o < (st1.r.getD t' .none).row.length := (List.getElem?_eq_some_iff.1 hc).1
  have hown' : ∀ t κ b, owns (setCellR st1.r t' o rc') bx ph t κ b → owns st1.r bx ph t κ b := fun t κ b hb' => by
    cases κ with
    | none =>
      obtain ⟨row, h1, rfl⟩ := owns_box hb'
      rw [getD_setCell] at h1
      split at h1
      · rename_i e1; subst e1
        cases hR : st1.r.getD t' .none with
        | box row' => exact owns_of_box hR
        | none => rw [hR] at h1; cases h1
        | loose row' => rw [hR] at h1; cases h1
      · exact owns_of_box h1
    | some p =>
      obtain ⟨rc1, h1, h2⟩ := owns_cell hb'
      rw [row_setCell] at h1
      split at h1
      · rename_i e2; subst e2
        rw [List.getElem?_set] at h1
        split at h1
        · rename_i e3; subst e3
          cases h1
          exact own_blk hc (by rw [← hb]; exact h2)
        · exact own_blk h1 h2
      · exact own_blk h1 h2
  refine ⟨hf.size, ⟨by rw [length_setCell]; exact hf.rsize.1, hf.rsize.2⟩, hf.defers, ⟨fun u => ?_, fun t κ t2 κ2 b h1 h2 => hf.heap.inj _ _ _ _ b (hown' _ _ _ h1) (hown' _ _ _ h2), fun t κ b h1 => ?_, ⟨fun b hb => Nat.lt_of_lt_of_le (hf.heap.low.1 b hb) hcg.size, hf.heap.low.2.frame hS (fun _ h => h)⟩⟩,
    fun t κ b h1 => hf.mine _ _ _ (hown' _ _ _ h1), fun i hi => (hf.slot i hi).mono fun v y hy => ?_, hf.keep, hf.new, chg_mine hf hog hcg⟩
  · rw [getD_setCell]
    by_cases e1 : t' = u
    · subst e1
      rw [if_pos rfl]
      have hcells : ∀ p (hp : p < (st1.r.getD t' .none).row.length), p ≠ o → RCRep T w' S' (ph t' p) (st1.r.getD t' .none).row[p] := fun p hp hne => by
        have hcp : (st1.r.getD t' .none).row[p]? = some (st1.r.getD t' .none).row[p] := List.getElem?_eq_getElem hp
        refine (hf.heap.cell hcp).frame hS (fun _ h => h) fun b hb => ?_
        have hob : owns st1.r bx ph t' (some p) b := own_blk hcp hb
        exact hO _ _ b hob fun e1 => hne (by
          subst e1
          have := (hf.heap.inj _ _ _ _ _ hob hog).2
          simpa using this)
      have key : ∀ row : List RC, (st1.r.getD t' .none).row = row → ∀ p (hp : p < (row.set o rc').length), RCRep T w' S' (ph t' p) (row.set o rc')[p] := fun row hrow p hp => by
        subst hrow
        rw [List.getElem_set]
        split
        · rename_i e1; subst e1; exact hnew
        · rename_i e1; exact hcells p (by simpa using hp) fun e2 => e1 e2.symm
      have hr := hf.heap.root t'
      cases hR : st1.r.getD t' .none with
      | none => trivial
      | box row =>
        rw [hR] at hr key
        obtain ⟨⟨arr, e2, h1, h2, h3⟩, _, h4⟩ := hr
        have hob : owns st1.r bx ph t' none (bx t') := owns_of_box hR
        refine ⟨⟨arr, e2, (hO _ _ _ hob (fun e3 => by
          rw [e3] at hob
          have := (hf.heap.inj _ _ _ _ _ hob hog).2
          cases this)).trans h1, by simp [h2, Root.row], fun p hp => h3 p (by simpa [Root.row] using hp)⟩, key row rfl, fun p f hp => ?_⟩
        have hp' : (row.set o rc')[p]? = some (.me f) := hp
        rw [List.getElem?_set] at hp'
        split at hp'
        · split at hp'
          · cases hp'; exact absurd hme (by simp [RC.isMe])
          · cases hp'
        · exact h4 p f hp'
      | loose row => rw [hR] at key; exact key row rfl
    · rw [if_neg e1]
      exact hR u (fun e2 => e1 e2.symm)
  · have := hf.heap.free _ _ _ (hown' _ _ _ h1)
    exact ⟨this.1, Nat.lt_of_lt_of_le this.2 hcg.size⟩
  · have hy' := hy.frame (w' := w') hS (fun _ h => h)
    have key : ∀ t2 o2 rc2, (st1.r.getD t2 .none).row[o2]? = some rc2 → ((setCellR st1.r t' o rc').getD t2 .none).row[o2]? = some rc2 ∨ (rc2 = rc ∧ ((setCellR st1.r t' o rc').getD t2 .none).row[o2]? = some rc') := fun t2 o2 rc2 h1 => by
      rw [row_setCell]
      split
      · rename_i e3; subst e3
        rw [List.getElem?_set]
        split
        · rename_i e4; subst e4
          rw [hc] at h1; cases h1
          exact .inr ⟨rfl, rfl⟩
        · exact .inl h1
      · exact .inl h1
    refine hy'.congr2 (fun t2 o2 e2 n2 c2 h1 => ?_) (fun t2 o2 kk m h1 => ?_) (fun t2 o2 sh2 c2 p2 h1 => ?_) (fun t2 row h1 => box_setCell h1)
    · rcases key t2 o2 _ h1 with h2 | ⟨h3, h2⟩
      · exact ⟨_, h2⟩
      · obtain ⟨cells', rfl⟩ := k1 _ _ _ h3.symm
        exact ⟨cells', h2⟩
    · rcases key t2 o2 _ h1 with h2 | ⟨h3, h2⟩
      · exact ⟨_, _, h2⟩
      · obtain ⟨kk', m', rfl⟩ := k2 _ _ h3.symm
        exact ⟨kk', m', h2⟩
    · rcases key t2 o2 _ h1 with h2 | ⟨h3, h2⟩
      · exact ⟨_, _, h2⟩
      · obtain ⟨c', p', rfl⟩ := k3 _ _ _ h3.symm
        exact ⟨c', p', h2⟩

theorem eptr_store_sound (hT : TOk P T) (h : Rel T w0 S0 F st a w S bx ph) {t : TypeId} {ti : TI} (ht : T t = some ti) {t' o k : Nat} {x u : Value} {xs : List X} {cs : List C} {e : TypeId} {n : Nat} {cells : List C}
    (hu : XRep T w S st.r bx ph u (.eptr t' o k)) (hx : XsRep T w S st.r bx ph x.cells xs) (hxl : xs.length = ti.size) (hcs : optAll (xs.map (stab T (std P T) st.r)) = some cs)
    (hown : ownAt (xs.foldl (freezeX T (std P T)) st).r t' o = some (e, n, cells)) (hle : k + ti.size ≤ cells.length) :
    ∃ w', (Instr.storeAt t u x).run P w = .ok () w' ∧ ∃ S', Rel T w0 S0 F { (xs.foldl (freezeX T (std P T)) st) with r := setCellR (xs.foldl (freezeX T (std P T)) st).r t' o (.own e n (setC cells k cs)) } a w' S' bx ph := by
  obtain ⟨S', hf, hcl, hcr⟩ := stab_all (P := P) h (vs := x.cells.toList) (by rw [Array.length_toList]; exact hx.1) (fun i h1 h2 => by simpa using hx.2 i h1 (by simpa using h2)) hcs
  generalize (xs.foldl (freezeX T (std P T)) st) = st1 at *
  have hc := ownAt_eq hown
  obtain ⟨e0, n0, cells0, g, cap, u1, u2, rfl⟩ := hu
  obtain ⟨ys, y1, y2, y3⟩ := hf.rel.heap.cell hc
  rw [u2] at y1
  have hog : owns st1.r bx ph t' (some o) g := own_blk hc (by show (ph t' o).v.ownBlock = some g; rw [u2]; rfl)
  obtain ⟨y10, y11⟩ := y1
  rcases y11 with ⟨hv, _⟩ | ⟨g', cap', cur, hv, _, hheap, hn, hm, hs, htk⟩
  · cases hv
  · cases hv
    have hcur : cells.length ≤ cur.size := by
      rw [← y2, y10, hs]; exact Nat.mul_le_mul_right _ hn
    have hxs : x.cells.size = ti.size := by rw [hx.1, hxl]
    have hfit : k + ti.size ≤ cur.size := by omega
    have hrun := run_store_at (P := P) hT ht hheap hxs hfit (xs_one h.heap hx (stab_nu hcs))
    have hcg := chg_setRow (w := w) g (cur.toList.take k ++ x.cells.toList ++ cur.toList.drop (k + ti.size)).toArray
    refine ⟨_, hrun, S', ?_⟩
    generalize hw' : w.setRow g (cur.toList.take k ++ x.cells.toList ++ cur.toList.drop (k + ti.size)).toArray = w' at hcg
    obtain ⟨hS, hO, hR⟩ := hf.rel.heap.write hog hcg
    have hheap' : w'.heap[g]? = some (.cells (cur.toList.take k ++ x.cells.toList ++ cur.toList.drop (k + ti.size)).toArray e (0, 0)) := by
      rw [← hw']; exact setRow_heap w g cur _ e (0, 0) hheap
    have hcsl : cs.length = ti.size := by rw [hcl, Array.length_toList, hxs]
    have hnew : RCRep T w' S' (ph t' o) (.own e n (setC cells k cs)) := by
      have hxt : x.cells.toList.length = ti.size := by rw [Array.length_toList, hxs]
      have hnl : cells.length = n * szOf T e := by rw [← y2, y10]
      have hys : k + ti.size ≤ ys.length := by omega
      have hfit2 : k + ti.size ≤ cur.toList.length := by rw [Array.length_toList]; exact hfit
      have hset : setC cells k cs = cells.take k ++ cs ++ cells.drop (k + ti.size) := by unfold setC; rw [hcsl]
      have hlen1 : (setC cells k cs).length = cells.length := by rw [hset]; exact spl_length hcsl hle
      refine ⟨ys.take k ++ x.cells.toList ++ ys.drop (k + ti.size), ⟨?_, .inr ⟨g, cap, _, u2, Nat.zero_le _, hheap', hn, hm, ?_, ?_⟩⟩, ?_, fun j q1 q2 => ?_⟩
      · rw [spl_length hxt hys, y10]
      · rw [List.size_toArray, spl_length hxt hfit2, Array.length_toList, hs]
      · apply List.ext_getElem?
        intro j
        rw [List.getElem?_take, List.toList_toArray, spl_get hxt hfit2, spl_get hxt hys, ← htk, List.getElem?_take]
        by_cases hj : j < n * szOf T e
        · simp only [if_pos hj]
        · simp only [if_neg hj]
          rw [if_neg (by omega)]
      · rw [hlen1, spl_length hxt hys, y2]
      · have fr : ∀ {v : Value} {c : C}, CRep w S' v c → CRep w' S' v c := fun hc => hc.frame hS fun _ h => h
        have q1' : j < cells.length := by omega
        have e1 := spl_get hxt hys j
        have e2 := spl_get hcsl hle j
        rw [← hset] at e2
        by_cases h1 : k ≤ j ∧ j < k + ti.size
        · rw [if_pos h1, List.getElem?_eq_getElem (show j - k < x.cells.toList.length by omega)] at e1
          rw [if_pos h1, List.getElem?_eq_getElem (show j - k < cs.length by omega)] at e2
          rw [get_of q2 e1, get_of q1 e2]
          exact fr (hcr (j - k) (by omega) (by omega))
        · rw [if_neg h1, List.getElem?_eq_getElem (show j < ys.length by omega)] at e1
          rw [if_neg h1, List.getElem?_eq_getElem q1'] at e2
          rw [get_of q2 e1, get_of q1 e2]
          exact fr (y3 j q1' (by omega))
    exact cell_write hf.rel hc rfl (fun e0 n0 c0 h0 => ⟨_, by cases h0; rfl⟩) (fun _ _ h0 => by cases h0) (fun _ _ _ h0 => by cases h0) hog hcg hnew
end Go.Proofs.Ytdmdcmhgfgookaa.A
