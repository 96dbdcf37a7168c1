/- The ghost machine, part 22c: calls that turn a slice of one's own. -/
import Derived.Test.YtdmdcmhgfgookaaAm22b
set_option linter.unusedSimpArgs false
set_option linter.unusedVariables false
set_option maxRecDepth 100000
set_option maxHeartbeats 4000000
namespace Go.Proofs.Ytdmdcmhgfgookaa.A
open Go Go.RowKit
variable {P : Program} {T : TT} {w w' w0 : World} {S S0 : Nat → Prop} {F : Fr} {bx : Nat → Nat} {ph : Nat → Nat → Pv} {a : Act} {st st' : St}

/-- a root's cell is told otherwise, and owns what it owned -/
theorem cell_reword (hf : Rel T w0 S0 F st a w S bx ph) {t o : Nat} {rc rc' : RC} (hc : (st.r.getD t .none).row[o]? = some rc) (hb : rc'.blk (ph t o) = rc.blk (ph t o))
    (k1 : ∀ e n cells, rc = .own e n cells → ∃ cells', rc' = .own e n cells') (k2 : ∀ kk m, rc = .map kk m → ∃ kk' m', rc' = .map kk' m') (k3 : ∀ sh c p, rc = .tree sh c p → ∃ c' p', rc' = .tree sh c' p') (hnew : RCRep T w S (ph t o) rc') (hme : rc'.isMe = false := by rfl) :
    Rel T w0 S0 F { st with r := setCellR st.r t o rc' } a w S bx ph := by
  have hin : o < (st.r.getD t .none).row.length := (List.getElem?_eq_some_iff.1 hc).1
  have hown' : ∀ u κ b, owns (setCellR st.r t o rc') bx ph u κ b → owns st.r bx ph u κ b := fun u κ b hb' => by
    cases κ with
    | none =>
      obtain ⟨row, h1, rfl⟩ := owns_box hb'
      rw [getD_setCell] at h1
      split at h1
      · rename_i e1; subst e1
        cases hR : st.r.getD t .none with
        | box row' => exact owns_of_box hR
        | none => rw [hR] at h1; cases h1
        | loose row' => rw [hR] at h1; cases h1
      · exact owns_of_box h1
    | some p =>
      obtain ⟨rc1, h1, h2⟩ := owns_cell hb'
      rw [row_setCell] at h1
      split at h1
      · rename_i e2; subst e2
        rw [List.getElem?_set] at h1
        split at h1
        · rename_i e3; subst e3
          cases h1
          exact own_blk hc (by rw [← hb]; exact h2)
        · exact own_blk h1 h2
      · exact own_blk h1 h2
  refine ⟨hf.size, ⟨by rw [length_setCell]; exact hf.rsize.1, hf.rsize.2⟩, hf.defers, ⟨fun u => ?_, fun t κ t2 κ2 b h1 h2 => hf.heap.inj _ _ _ _ b (hown' _ _ _ h1) (hown' _ _ _ h2), fun t κ b h1 => hf.heap.free _ _ _ (hown' _ _ _ h1), hf.heap.low⟩,
    fun t κ b h1 => hf.mine _ _ _ (hown' _ _ _ h1), fun i hi => (hf.slot i hi).mono fun v y hy => ?_, hf.keep, hf.new, hf.chg⟩
  · rw [getD_setCell]
    split
    · rename_i e1; subst e1; exact (hf.heap.root t).setCell (fun _ => hnew) hme
    · exact hf.heap.root u
  · have key : ∀ t2 o2 rc2, (st.r.getD t2 .none).row[o2]? = some rc2 → ((setCellR st.r t o rc').getD t2 .none).row[o2]? = some rc2 ∨ (rc2 = rc ∧ ((setCellR st.r t o rc').getD t2 .none).row[o2]? = some rc') := fun t2 o2 rc2 h1 => by
      rw [row_setCell]
      split
      · rename_i e3; subst e3
        rw [List.getElem?_set]
        split
        · rename_i e4; subst e4
          rw [hc] at h1; cases h1
          exact .inr ⟨rfl, rfl⟩
        · exact .inl h1
      · exact .inl h1
    refine hy.congr2 (fun t2 o2 e2 n2 c2 h1 => ?_) (fun t2 o2 kk m h1 => ?_) (fun t2 o2 sh2 c2 p2 h1 => ?_) (fun t2 row h1 => box_setCell h1)
    · rcases key t2 o2 _ h1 with h2 | ⟨h3, h2⟩
      · exact ⟨_, h2⟩
      · obtain ⟨cells', rfl⟩ := k1 _ _ _ h3.symm
        exact ⟨cells', h2⟩
    · rcases key t2 o2 _ h1 with h2 | ⟨h3, h2⟩
      · exact ⟨_, _, h2⟩
      · obtain ⟨kk', m', rfl⟩ := k2 _ _ h3.symm
        exact ⟨kk', m', h2⟩
    · rcases key t2 o2 _ h1 with h2 | ⟨h3, h2⟩
      · exact ⟨_, _, h2⟩
      · obtain ⟨c', p', rfl⟩ := k3 _ _ _ h3.symm
        exact ⟨c', p', h2⟩
theorem fnOf_sound {r : List Root} : ∀ (rest : List V) (gs : List FuncId) (vs : List Value), optAll (rest.map fnOf) = some gs → vs.length = rest.length → (∀ k (h1 : k < rest.length) (h2 : k < vs.length), VRep T w S r bx ph vs[k] rest[k]) →
    vs = gs.map fun g => Value.func (.func g) #[] #[] := by
  intro rest gs vs h hl hv
  have h2 := optAll_some _ _ h
  have hlen : rest.length = gs.length := by have := congrArg List.length h2; simpa using this
  apply List.ext_getElem
  · simp [hl, hlen]
  · intro k h3 h4
    have hk : k < rest.length := by omega
    have hk2 : k < gs.length := by omega
    have h5 := congrArg (fun l => l[k]?) h2
    simp only [List.getElem?_map, List.getElem?_eq_getElem hk, List.getElem?_eq_getElem hk2, Option.map_some, Option.some.injEq] at h5
    have h6 := hv k hk h3
    unfold fnOf at h5
    split at h5
    · rename_i f he
      cases h5
      rw [he] at h6
      rw [List.getElem_map]
      exact h6.1
    · cases h5
theorem ownCall_sound (h : Rel T w0 S0 F st a w S bx ph) (hsp : st.r.getD st.s.length .none = .none) {f : FuncId} {v : Value} {vs : List Value} {x : V} {rest : List V} {cr : RV × List Root} {vf : Nat → V} {st1 : St} {obl : List Prop}
    (hx : VRep T w S st.r bx ph v x) (hl : vs.length = rest.length) (hv : ∀ k (h1 : k < rest.length) (h2 : k < vs.length), VRep T w S st.r bx ph vs[k] rest[k])
    (hp : ownCall (std P T) st f x rest cr = some (vf, st1, obl)) (ho : ∀ p ∈ obl, p) {dst : Option Nat} (hdst : ∀ k, dst = some k → k < st.s.length) :
    Enters P f ∧ Calls P f (v :: vs).toArray w fun e w' => ∃ z, e = .returned z ∧ Rels T w0 S0 F (fin st1 dst vf) (a.put dst z) w' := by
  unfold ownCall at hp
  split at hp
  · rename_i t o e n' cs' gs hcr hgs
    obtain ⟨e1, n1, cells1, hc1, rfl⟩ := hx
    have hvs := fnOf_sound rest gs vs hgs hl hv
    split at hp
    · rename_i e0 n cells hown
      have hc := ownAt_eq hown
      split at hp
      · rename_i hcond
        obtain ⟨rfl, hne⟩ := hcond
        have hlow := h.heap.low.1
        have hrc := h.heap.cell hc
        have hfree : ∀ b, (ph t o).v.ownBlock = some b → ¬ S b ∧ b < w.heap.size := fun b hb => h.heap.free t (some o) b (own_blk hc hb)
        split at hp
        · simp only [Option.some.injEq, Prod.mk.injEq] at hp
          obtain ⟨rfl, rfl, rfl⟩ := hp
          obtain ⟨hen, hpc⟩ : Enters P f ∧ PCO P T f e0 n cells gs false n cs' := ho _ (List.mem_cons_self ..)
          refine ⟨hen, ?_⟩
          rw [hvs]
          refine (hpc w S (ph t o) hlow hrc hfree).mono fun en w' ⟨z, he, hcg, hz⟩ => ⟨z, he, ?_⟩
          simp only [Bool.false_eq_true, if_false] at hz
          obtain ⟨rfl, hnew⟩ := hz
          have hrel : Rel T w0 S0 F { st with r := setCellR st.r t o (.own e0 n cs') } a w' S bx ph := by
            cases hb : (ph t o).v.ownBlock with
            | none =>
              have h2 := h.world (W := fun _ => False) (hcg.mono fun b _ hq => by rw [hb] at hq; cases hq) (fun _ _ hf => hf.elim)
              exact cell_reword h2 hc rfl (fun _ _ _ he => by cases he; exact ⟨_, rfl⟩) (fun _ _ he => by cases he) (fun _ _ _ he => by cases he) hnew
            | some g =>
              exact cell_write h hc rfl (fun _ _ _ he => by cases he; exact ⟨_, rfl⟩) (fun _ _ he => by cases he) (fun _ _ _ he => by cases he) (own_blk hc hb) (hcg.mono fun b _ hq => by rw [hb] at hq; cases hq; rfl) hnew
          refine fin_sound hrel hdst (fun _ _ _ _ _ _ _ _ => trivial)
        · simp only [Option.some.injEq, Prod.mk.injEq] at hp
          obtain ⟨rfl, rfl, rfl⟩ := hp
          obtain ⟨hen, hpc⟩ : Enters P f ∧ PCO P T f e0 n cells gs true n' cs' := ho _ (List.mem_cons_self ..)
          refine ⟨hen, ?_⟩
          rw [hvs]
          refine (hpc w S (ph t o) hlow hrc hfree).mono fun en w' ⟨z, he, hcg, hz⟩ => ⟨z, he, ?_⟩
          simp only [if_true] at hz
          obtain ⟨hnew, hzb⟩ := hz
          have h1 := dead_sound h t o
          have hlen : (kill (ofCell t o) st.s).length = st.s.length := by simp [kill]
          have := own_fin (w' := w') (z := z) (dst := dst) h1 (by show (setCellR st.r t o .dead).getD (kill (ofCell t o) st.s).length .none = .none; rw [hlen, getD_setCell, if_neg hne]; exact hsp) (W := fun b => (ph t o).v.ownBlock = some b) hcg (fun b hb hW => by
            refine ⟨(hfree b hW).1, fun u κ ho' => ?_, h.mine t (some o) b (own_blk hc hW)⟩
            obtain ⟨h3, h4⟩ := owns_dead ho'
            obtain ⟨e1, e2⟩ := h.heap.inj _ _ _ _ b h3 (own_blk hc hW)
            exact h4 ⟨e1, e2⟩) hnew hzb (fun k hk => by show k < (kill (ofCell t o) st.s).length; rw [hlen]; exact hdst k hk)
          simpa only [hlen] using this
      · cases hp
    · cases hp
  · cases hp
end Go.Proofs.Ytdmdcmhgfgookaa.A
