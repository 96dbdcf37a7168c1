/- The ghost machine, part 20: stores into boxes. -/
import Derived.Test.YtdmdcmhgfgookaaAm19
set_option linter.unusedSimpArgs false
set_option linter.unusedVariables false
set_option maxRecDepth 100000
set_option maxHeartbeats 4000000
namespace Go.Proofs.Ytdmdcmhgfgookaa.A
open Go Go.RowKit
variable {P : Program} {T : TT} {w w' w0 : World} {S S0 : Nat → Prop} {F : Fr} {bx : Nat → Nat} {ph : Nat → Nat → Pv} {a : Act} {st st' : St}

theorem ofCells_true {t o n u p : Nat} {x : X} (hc : ofCell u p x = true) (h : ofCells t o n x = false) : ¬ (u = t ∧ o ≤ p ∧ p < o + n) := by
  rintro ⟨rfl, h1, h2⟩
  rcases ofCell_cases hc with rfl | ⟨lo, hi, rfl⟩ | ⟨k, rfl⟩ | rfl | ⟨p, rfl⟩ | ⟨p, k, off, rfl⟩ <;> simp [ofCells, h1, h2] at h

/-- what one owned cell means, in a world that turned at another block -/
theorem Heap.write_cell (h : Heap T w S st.r bx ph) {t' g : Nat} {κ : Option Nat} (hg : owns st.r bx ph t' κ g) (hc : Chg (fun b => b = g) w w') {u o : Nat} {rc : RC} (hr : (st.r.getD u .none).row[o]? = some rc) (hne : ¬ (u = t' ∧ some o = κ)) : RCRep T w' S (ph u o) rc := by
  obtain ⟨hS, hO, _⟩ := h.write hg hc
  refine (h.cell hr).frame hS (fun _ h => h) fun b hb => ?_
  have hob : owns st.r bx ph u (some o) b := by
    unfold owns ownOf
    dsimp only
    rw [hr]
    revert hb
    cases rc <;> intro hb <;> first | exact hb | cases hb
  exact hO _ _ b hob fun e => by
    subst e
    have := h.inj _ _ _ _ _ hob hg
    exact hne ⟨this.1, this.2⟩

theorem box_store_core (hT : TOk P T) {ph' : Nat → Nat → Pv} {st1 : St} (hrel : Rel T w0 S0 F st1 a w S bx ph') (hlen : st1.s.length = st.s.length) {t : TypeId} {ti : TI} (ht : T t = some ti) {t' o : Nat} {x u : Value} {rcs row : List RC} (r2 : (st1.r.getD st.s.length .none).row = rcs)
    (hrl : rcs.length = ti.size) (hxs : x.cells.size = ti.size) (hvals : ∀ k (hk : k < x.cells.toList.length), ph' st.s.length k = x.cells.toList[k]) (hone : ∀ v ∈ x.cells.toList, v.oneCell' = true) (hu : u = .pointer (some ⟨bx t', o, none⟩))
    (hrow : rootOf st1.r t' = .box row) (hle : o + ti.size ≤ row.length) (hne : t' ≠ st.s.length) (hme : ∀ k f, rcs[k]? = some (.me f) → (ph' st.s.length k).v = meV f (bx t')) :
    ∃ w', (Instr.storeAt t u x).run P w = .ok () w' ∧ Rels T w0 S0 F { s := kill (fun x => ofRoot st.s.length x || ofCells t' o ti.size x) st1.s, r := (st1.r.set t' (.box (row.take o ++ (rootOf st1.r st.s.length).row ++ row.drop (o + ti.size)))).set st.s.length .none } a w' := by
  have hrN : (rootOf st1.r st.s.length).row = rcs := r2
  rw [hrN]
  have hrow' : st1.r.getD t' .none = .box row := hrow
  subst hu
  have hN : st.s.length < st1.r.length := by have := hrel.rsize.1; rw [hlen] at this; omega
  have ht' : t' < st1.r.length := by
    rcases Nat.lt_or_ge t' st1.r.length with h1 | h1
    · exact h1
    · rw [List.getD_eq_getElem?_getD, List.getElem?_eq_none h1] at hrow'; cases hrow'
  have hob : owns st1.r bx ph' t' none (bx t') := owns_of_box hrow'
  have hroot := hrel.heap.root t'
  rw [hrow'] at hroot
  obtain ⟨⟨arr, e, h1, h2, h3⟩, h4, h5⟩ := hroot
  have hfit : o + ti.size ≤ arr.size := by omega
  have hrun := run_store_at (P := P) hT ht h1 hxs hfit hone
  have hcg := chg_setRow (w := w) (bx t') (arr.toList.take o ++ x.cells.toList ++ arr.toList.drop (o + ti.size)).toArray
  refine ⟨_, hrun, ?_⟩
  have hheap' : (w.setRow (bx t') (arr.toList.take o ++ x.cells.toList ++ arr.toList.drop (o + ti.size)).toArray).heap[bx t']? = some (.cells (arr.toList.take o ++ x.cells.toList ++ arr.toList.drop (o + ti.size)).toArray e (0, 0)) := setRow_heap w (bx t') arr _ e (0, 0) h1
  generalize w.setRow (bx t') (arr.toList.take o ++ x.cells.toList ++ arr.toList.drop (o + ti.size)).toArray = w' at hcg hheap'
  obtain ⟨hS, hO, hR⟩ := hrel.heap.write hob hcg
  have hxt : x.cells.toList.length = ti.size := by rw [Array.length_toList, hxs]
  have hfit2 : o + ti.size ≤ arr.toList.length := by rw [Array.length_toList]; exact hfit
  have hg : ∀ v, ((st1.r.set t' (.box (row.take o ++ rcs ++ row.drop (o + ti.size)))).set st.s.length .none).getD v .none = if v = st.s.length then .none else if v = t' then .box (row.take o ++ rcs ++ row.drop (o + ti.size)) else st1.r.getD v .none := fun v => by
    rw [getD_set, getD_set]
    simp only [List.length_set]
    by_cases e1 : v = st.s.length
    · subst e1; simp [hN]
    · rw [if_neg (fun hh => e1 hh.1.symm), if_neg e1]
      by_cases e2 : v = t'
      · subst e2; rw [if_pos ⟨rfl, ht'⟩, if_pos rfl]
      · rw [if_neg (fun hh => e2 hh.1.symm), if_neg e2]
  have hN1 : (st1.r.getD st.s.length .none).row = rcs := r2
  generalize hr2 : (st1.r.set t' (.box (row.take o ++ rcs ++ row.drop (o + ti.size)))).set st.s.length .none = r2 at hg
  have hgN : r2.getD st.s.length .none = .none := by rw [hg, if_pos rfl]
  have hgT : r2.getD t' .none = .box (row.take o ++ rcs ++ row.drop (o + ti.size)) := by rw [hg, if_neg hne, if_pos rfl]
  have hgO : ∀ v, v ≠ st.s.length → v ≠ t' → r2.getD v .none = st1.r.getD v .none := fun v e1 e2 => by rw [hg, if_neg e1, if_neg e2]
  have hspl := fun k => spl_get (l := row) (us := rcs) (k := o) (m := ti.size) hrl hle k
  obtain ⟨φ, p1, p2⟩ : ∃ φ : Nat → Nat → Pv, (∀ k, o ≤ k ∧ k < o + ti.size → φ t' k = ph' st.s.length (k - o)) ∧ ∀ v k, ¬ (v = t' ∧ o ≤ k ∧ k < o + ti.size) → φ v k = ph' v k :=
    ⟨fun v k => if v = t' ∧ o ≤ k ∧ k < o + ti.size then ph' st.s.length (k - o) else ph' v k, fun k hk => if_pos ⟨rfl, hk⟩, fun v k hk => if_neg hk⟩
  -- whose block a block is
  have hown : ∀ v κ b, owns r2 bx φ v κ b →
      v ≠ st.s.length ∧ (((v = t' ∧ ∃ k, κ = some k ∧ o ≤ k ∧ k < o + ti.size ∧ owns st1.r bx ph' st.s.length (some (k - o)) b)) ∨ (owns st1.r bx ph' v κ b ∧ ¬ (v = t' ∧ ∃ k, κ = some k ∧ o ≤ k ∧ k < o + ti.size))) := fun v κ b hb => by
    by_cases e1 : v = st.s.length
    · subst e1; exact (owns_none _ _ _ hgN _ _ hb).elim
    · refine ⟨e1, ?_⟩
      cases κ with
      | none =>
        obtain ⟨rw', k1, rfl⟩ := owns_box hb
        refine .inr ⟨?_, by simp⟩
        by_cases e2 : v = t'
        · subst e2; exact hob
        · rw [hgO v e1 e2] at k1; exact owns_of_box k1
      | some k =>
        obtain ⟨rc', k1, k2⟩ := owns_cell hb
        by_cases e2 : v = t'
        · subst e2
          rw [hgT] at k1
          have k1' : (row.take o ++ rcs ++ row.drop (o + ti.size))[k]? = some rc' := k1
          rw [hspl] at k1'
          by_cases hk : o ≤ k ∧ k < o + ti.size
          · rw [if_pos hk] at k1'
            rw [p1 k hk] at k2
            exact .inl ⟨rfl, k, rfl, hk.1, hk.2, own_blk (by rw [hN1]; exact k1') k2⟩
          · rw [if_neg hk] at k1'
            rw [p2 _ _ (fun hh => hk hh.2)] at k2
            refine .inr ⟨own_blk (by rw [hrow']; exact k1') k2, ?_⟩
            rintro ⟨_, k', hk', hh⟩
            cases hk'; exact hk hh
        · rw [hgO v e1 e2] at k1
          rw [p2 _ _ (fun hh => e2 hh.1)] at k2
          exact .inr ⟨own_blk k1 k2, fun hh => e2 hh.1⟩
  refine ⟨S, bx, φ, ⟨?_, ?_, hrel.defers, ⟨fun v => ?_, fun v κ v2 κ2 b b1 b2 => ?_, fun v κ b b1 => ?_, ⟨fun b hb => Nat.lt_of_lt_of_le (hrel.heap.low.1 b hb) hcg.size, hrel.heap.low.2.frame (hrel.heap.write hob hcg).1 (fun _ h => h)⟩⟩, fun v κ b b1 => ?_, ?_, hrel.keep, hrel.new, chg_mine hrel hob hcg⟩, ?_⟩
  · simp [kill, hrel.size]
  · refine ⟨?_, fun v hv => hrel.rsize.2 v (by simpa [kill] using hv)⟩
    show (kill _ st1.s).length + 1 ≤ r2.length
    rw [← hr2]; simpa [kill] using hrel.rsize.1
  · show RootRep T w' S (bx v) _ (r2.getD v .none)
    by_cases e1 : v = st.s.length
    · subst e1; rw [hgN]; trivial
    · by_cases e2 : v = t'
      · subst e2
        rw [hgT]
        have hlen2 : (row.take o ++ rcs ++ row.drop (o + ti.size)).length = row.length := spl_length hrl hle
        refine ⟨⟨_, e, hheap', ?_, fun k hk => ?_⟩, fun k hk => ?_, fun k f hk => ?_⟩
        · rw [List.size_toArray, spl_length hxt hfit2, hlen2, Array.length_toList, h2]
        · rw [List.getElem?_toArray, spl_get hxt hfit2]
          by_cases hk2 : o ≤ k ∧ k < o + ti.size
          · rw [if_pos hk2, p1 k hk2]
            have hk3 : k - o < x.cells.toList.length := by omega
            rw [List.getElem?_eq_getElem hk3, hvals _ hk3]
          · rw [if_neg hk2, p2 _ _ (fun hh => hk2 hh.2), Array.getElem?_toList]
            exact h3 k (by omega)
        · have hs := hspl k
          by_cases hk2 : o ≤ k ∧ k < o + ti.size
          · have hk3 : k - o < rcs.length := by omega
            rw [if_pos hk2, List.getElem?_eq_getElem hk3] at hs
            rw [get_of hk hs]
            rw [p1 k hk2]
            exact hrel.heap.write_cell hob hcg (u := st.s.length) (o := k - o) (by rw [hN1, List.getElem?_eq_getElem hk3]) (by simp)
          · have hk3 : k < row.length := by omega
            rw [if_neg hk2, List.getElem?_eq_getElem hk3] at hs
            rw [get_of hk hs]
            rw [p2 _ _ (fun hh => hk2 hh.2)]
            exact hrel.heap.write_cell hob hcg (u := v) (o := k) (by rw [hrow']; exact List.getElem?_eq_getElem hk3) (by simp)
        · rw [hspl k] at hk
          split at hk
          · rename_i hk2; rw [p1 k hk2]; exact hme _ f hk
          · rename_i hk2
            rw [p2 _ _ (fun hh => hk2 hh.2)]
            exact h5 k f hk
      · rw [hgO v e1 e2]
        have := hR v e2
        have e3 : φ v = ph' v := by funext k; exact p2 _ _ (fun hh => e2 hh.1)
        rw [e3]; exact this
  · obtain ⟨n1, c1⟩ := hown v κ b b1
    obtain ⟨n2, c2⟩ := hown v2 κ2 b b2
    rcases c1 with ⟨rfl, k, rfl, k1, k2, k3⟩ | ⟨d1, d2⟩ <;> rcases c2 with ⟨rfl, k', rfl, k1', k2', k3'⟩ | ⟨d1', d2'⟩
    · have := (hrel.heap.inj _ _ _ _ b k3 k3').2
      simp only [Option.some.injEq] at this ⊢
      exact ⟨trivial, by omega⟩
    · exact absurd (hrel.heap.inj _ _ _ _ b k3 d1').1.symm n2
    · exact absurd (hrel.heap.inj _ _ _ _ b d1 k3').1 n1
    · exact hrel.heap.inj _ _ _ _ b d1 d1'
  · obtain ⟨n1, c1⟩ := hown v κ b b1
    rcases c1 with ⟨rfl, k, rfl, k1, k2, k3⟩ | ⟨d1, d2⟩
    · have := hrel.heap.free _ _ b k3; exact ⟨this.1, Nat.lt_of_lt_of_le this.2 hcg.size⟩
    · have := hrel.heap.free _ _ b d1; exact ⟨this.1, Nat.lt_of_lt_of_le this.2 hcg.size⟩
  · obtain ⟨n1, c1⟩ := hown v κ b b1
    rcases c1 with ⟨rfl, k, rfl, k1, k2, k3⟩ | ⟨d1, d2⟩
    · exact hrel.mine _ _ b k3
    · exact hrel.mine _ _ b d1
  · refine slots_map (fun x => if (ofRoot st.s.length x || ofCells t' o ti.size x) = true then .undef else x) (fun v y hy => ?_) hrel.slot
    split
    · trivial
    · rename_i hk
      have k1 : ofRoot st.s.length y = false := by
        cases hh : ofRoot st.s.length y with
        | false => rfl
        | true => rw [hh] at hk; simp at hk
      have k2 : ofCells t' o ti.size y = false := by
        cases hh : ofCells t' o ti.size y with
        | false => rfl
        | true => rw [hh] at hk; simp at hk
      have hy' := hy.frame (w' := w') hS (fun _ h => h)
      refine hy'.congr (fun v p rc' hc _ hv => ?_) (fun v p he rw' hv hp' => ?_) (fun f caps he v hv rw' hrw => ?_)
      · have n1 : v ≠ st.s.length := fun e1 => by
          subst e1
          rcases ofCell_cases hc with rfl | ⟨lo, hi, rfl⟩ | ⟨k, rfl⟩ | rfl | ⟨p, rfl⟩ | ⟨p, k, off, rfl⟩ <;> simp [ofRoot] at k1
        have n2 := ofCells_true hc k2
        refine ⟨?_, p2 _ _ n2⟩
        show (r2.getD v .none).row[p]? = _
        by_cases e2 : v = t'
        · subst e2
          rw [hgT]
          show (row.take o ++ rcs ++ row.drop (o + ti.size))[p]? = _
          rw [hspl, if_neg (fun hh => n2 ⟨rfl, hh⟩)]
          rw [hrow'] at hv; exact hv
        · rw [hgO v n1 e2]; exact hv
      · subst he
        have n1 : v ≠ st.s.length := fun e1 => by subst e1; simp [ofRoot] at k1
        show ∃ row', r2.getD v .none = _ ∧ _
        by_cases e2 : v = t'
        · subst e2
          rw [hrow'] at hv; cases hv
          exact ⟨_, hgT, by rw [spl_length hrl hle]; exact hp', rfl⟩
        · exact ⟨rw', by rw [hgO v n1 e2]; exact hv, hp', rfl⟩
      · have n1 : v ≠ st.s.length := fun e1 => by subst e1; rw [ofRoot_caps he hv] at k1; cases k1
        show ∃ row', r2.getD v .none = _ ∧ _
        by_cases e2 : v = t'
        · subst e2
          rw [hrow'] at hrw; cases hrw
          exact ⟨_, hgT, spl_length hrl hle, rfl⟩
        · exact ⟨rw', by rw [hgO v n1 e2]; exact hrw, rfl, rfl⟩
  · show r2.getD (kill _ st1.s).length .none = .none
    rw [show (kill (fun x => ofRoot st.s.length x || ofCells t' o ti.size x) st1.s).length = st.s.length by simp [kill, hlen]]
    exact hgN
theorem box_store_sound (hT : TOk P T) (h : Rel T w0 S0 F st a w S bx ph) (hsp : st.r.getD st.s.length .none = .none) {t : TypeId} {ti : TI} (ht : T t = some ti) {t' o : Nat} {x u : Value} {xs : List X} {st1 : St} {row : List RC}
    (hu : XRep T w S st.r bx ph u (.ptr t' o)) (hx : XsRep T w S st.r bx ph x.cells xs) (hxl : xs.length = ti.size) (hp : pushAll T (std P T) st xs = some st1)
    (hrow : rootOf st1.r t' = .box row) (hle : o + ti.size ≤ row.length) (hne : t' ≠ st.s.length) (hme : (rootOf st1.r st.s.length).row.any RC.isMe = false) :
    ∃ w', (Instr.storeAt t u x).run P w = .ok () w' ∧ Rels T w0 S0 F { s := kill (fun x => ofRoot st.s.length x || ofCells t' o ti.size x) st1.s, r := (st1.r.set t' (.box (row.take o ++ (rootOf st1.r st.s.length).row ++ row.drop (o + ti.size)))).set st.s.length .none } a w' := by
  have hb0 : ∀ row, st.r.getD st.s.length .none ≠ .box row := by rw [hsp]; exact fun _ h => by cases h
  obtain ⟨ph', q⟩ := pushAll_sound xs x.cells.toList st ph h hb0 (by rw [Array.length_toList]; exact hx.1) (fun k hk hk2 => by simpa using hx.2 k hk (by simpa using hk2)) hp
  obtain ⟨rcs, r1, r2⟩ := q.row
  have hl0 : (st.r.getD st.s.length .none).row = [] := by rw [hsp]; rfl
  rw [hl0, List.nil_append] at r2
  have hvals : ∀ k (hk : k < x.cells.toList.length), ph' st.s.length k = x.cells.toList[k] := fun k hk => by
    have := q.vals k hk
    rw [hl0] at this
    simpa using this
  have hxs : x.cells.size = ti.size := by rw [hx.1, hxl]
  have hrl : rcs.length = ti.size := by rw [r1, Array.length_toList, hxs]
  obtain ⟨row00, u1, u2, rfl⟩ := hu
  have hrN : (rootOf st1.r st.s.length).row = rcs := r2
  rw [hrN] at hme
  exact box_store_core hT q.rel q.len ht r2 hrl hxs hvals (xs_one h.heap hx (push_nu xs st st1 hp)) rfl hrow hle hne (fun k f hk => (noMe_get hme hk).elim)
/-- a method that is bound to the box is stored in the box -/
theorem me_store_sound (hT : TOk P T) (h : Rel T w0 S0 F st a w S bx ph) (hsp : st.r.getD st.s.length .none = .none) {t : TypeId} {ti : TI} (ht : T t = some ti) (h1 : ti.size = 1) {t' o : Nat} {x u : Value} {g : FuncId} {row : List RC}
    (hu : XRep T w S st.r bx ph u (.ptr t' o)) (hx : XRep T w S st.r bx ph x (.bfn g t')) (hrow : rootOf st.r t' = .box row) (hle : o + 1 ≤ row.length) (hne : t' ≠ st.s.length) :
    ∃ w', (Instr.storeAt t u x).run P w = .ok () w' ∧ Rels T w0 S0 F { s := kill (fun x => ofRoot st.s.length x || ofCells t' o 1 x) st.s, r := (st.r.set t' (.box (row.take o ++ [.me g] ++ row.drop (o + 1)))).set st.s.length .none } a w' := by
  obtain ⟨q1, q2⟩ := pushOwn h hsp (rc := .me g) (z := .of x) trivial (fun b hb => hb.elim)
  obtain ⟨_, rfl⟩ := hx
  obtain ⟨_, _, _, hu⟩ := hu
  have hN : st.s.length < st.r.length := by have := h.rsize.1; omega
  have hcells : (meV g (bx t')).cells = #[meV g (bx t')] := rfl
  obtain ⟨w', r1, r2⟩ := box_store_core (st := st) (rcs := [.me g]) (x := meV g (bx t')) (row := row) hT q1 rfl ht (by rw [q2]; rfl) h1.symm (by rw [hcells, h1]; rfl) (fun k hk => by
      have : k = 0 := by simpa [hcells] using hk
      subst this
      simp [phPush, hcells]; rfl) (fun v hv => by
      rw [hcells] at hv
      have : v = meV g (bx t') := by simpa using hv
      subst this; rfl) hu (by
      show (pushR st.r st.s.length _).getD t' .none = _
      rw [getD_push hN, if_neg (fun e => hne e.symm)]; exact hrow) (by rw [h1]; exact hle) hne (fun k f hk => by
      have : k = 0 := by
        have := (List.getElem?_eq_some_iff.1 hk).1
        simpa using this
      subst this
      cases hk
      simp [phPush]; rfl)
  refine ⟨w', r1, ?_⟩
  have e1 : (rootOf (pushR st.r st.s.length (.me g)) st.s.length).row = [.me g] := by unfold rootOf; rw [q2]; rfl
  rw [h1] at r2
  simp only [e1] at r2
  have e2 : ((pushR st.r st.s.length (.me g)).set t' (.box (row.take o ++ [.me g] ++ row.drop (o + 1)))).set st.s.length .none = (st.r.set t' (.box (row.take o ++ [.me g] ++ row.drop (o + 1)))).set st.s.length .none := by
    unfold pushR
    rw [List.set_comm _ _ (fun e => hne e.symm), List.set_set]
  rw [e2] at r2
  exact r2
end Go.Proofs.Ytdmdcmhgfgookaa.A
