/- The ghost machine, part 22: calls, and all operations that make or change memory. -/
import Derived.Test.YtljnfejcdadjpaaDoorAm21
set_option linter.unusedSimpArgs false
set_option linter.unusedVariables false
namespace Go.Proofs.YtljnfejcdadjpaaDoor.A
open Go Go.RowKit
variable {P : Program} {T : TT} {w w' w0 : World} {S S0 F : Nat → Prop} {bx : Nat → Nat} {ph : Nat → Nat → Value} {a : Act} {st st' : St}

theorem arg_noroot {r : List Root} {V : V} {x : Arg} (h : argOf T (std P T) r V = some x) : x.asRoot = .none := by
  unfold argOf at h
  split at h
  · cases h; rfl
  · split at h <;> cases h; rfl
  · split at h <;> cases h; rfl
  · cases h

/-- arguments, where what they read as is stable -/
theorem arg_sound {S' : Nat → Prop} {v : Value} {V : V} {x : Arg} (hv : VRep T w S st.r bx ph v V) (hx : argOf T (std P T) st.r V = some x) (b : Nat)
    (hs : ∀ y ∈ cellsOfV V, ∀ u c, XRep T w S st.r bx ph u y → stab T (std P T) st.r y = some c → CRep w S' u c) : ArgRep w S' b v x := by
  unfold argOf at hx
  split at hx
  · cases hx
    obtain ⟨rfl, _⟩ := hv; rfl
  · rename_i y _
    split at hx
    · rename_i c hc
      cases hx
      refine ⟨c, rfl, hs y ?_ v c hv hc⟩
      cases y <;> first | exact List.mem_singleton.2 rfl | (simp [stab] at hc)
    · cases hx
  · rename_i xs
    split at hx
    · rename_i cs hc
      cases hx
      obtain ⟨us, rfl, h1, h2⟩ := hv
      have h3 := optAll_some _ _ hc
      have hlen : cs.length = xs.length := by have := congrArg List.length h3; simpa using this.symm
      refine ⟨us, rfl, by omega, fun k hk hk2 => ?_⟩
      have hkx : k < xs.length := by omega
      refine hs xs[k] (List.getElem_mem hkx) _ _ (h2 k hkx hk2) ?_
      have := congrArg (fun l => l[k]?) h3
      simp only [List.getElem?_map, List.getElem?_eq_getElem hk, List.getElem?_eq_getElem (show k < xs.length by omega), Option.map_some, Option.some.injEq] at this
      exact this
    · cases hx
  · cases hx

theorem call_sound (h : Rel T w0 S0 F st a w S bx ph) (hsp : st.r.getD st.s.length .none = .none) {f : FuncId} {vs : List Value} {args : List V} {cr : RV × List Root} {vf : Nat → V} {st1 : St} {obl : List Prop}
    (hl : vs.length = args.length) (hv : ∀ k (h1 : k < args.length) (h2 : k < vs.length), VRep T w S st.r bx ph vs[k] args[k])
    (hp : callOp T (std P T) st f args cr = some (vf, st1, obl)) (ho : ∀ p ∈ obl, p) {dst : Option Nat} (hdst : ∀ k, dst = some k → k < st.s.length) :
    Enters P f ∧ Calls P f vs.toArray w fun e w' => ∃ z, e = .returned z ∧ Rels T w0 S0 F (fin st1 dst vf) (a.put dst z) w' ∧ Old w w' := by
  unfold callOp at hp
  split at hp
  · rename_i as has hup
    have has2 := optAll_some _ _ has
    have hal : as.length = args.length := by have := congrArg List.length has2; simpa using this.symm
    have hargs : ∀ k (h1 : k < as.length) (h2 : k < args.length), argOf T (std P T) st.r args[k] = some as[k] := fun k h1 h2 => by
      have := congrArg (fun l => l[k]?) has2
      simpa only [List.getElem?_map, List.getElem?_eq_getElem h1, List.getElem?_eq_getElem h2, Option.map_some, Option.some.injEq] using this
    have hnone : ∀ x ∈ as, x.asRoot = .none := fun x hx => by
      obtain ⟨k, hk, rfl⟩ := List.mem_iff_getElem.1 hx
      exact arg_noroot (hargs k hk (by omega))
    -- the call, under the frozen stable set
    obtain ⟨S', hf, hcr⟩ := freezeAll_sound (P := P) (args.flatMap cellsOfV) h
    have hlow : ∀ b, S' b → b < w.heap.size := hf.rel.heap.low
    have hall : ∀ k (h1 : k < as.length) (h2 : k < vs.length), ArgRep w S' (0 : Nat) vs[k] as[k] := fun k h1 h2 =>
      arg_sound (hv k (by omega) h2) (hargs k h1 (by omega)) 0 fun y hy u c hu hc => hcr y (List.mem_flatMap.2 ⟨_, List.getElem_mem _, hy⟩) u c hu hc
    have hfill : ∀ {R : Ending → World → Prop}, (PC P T f as cr.1 []) → (∀ z w' S'' bx' ph', Gives T w S' (as.map Arg.asRoot) (fun _ => 0) (fun _ _ => undef) cr.1 [] z w' S'' bx' ph' → R (.returned z) w') → Calls P f vs.toArray w R := fun hpc hR =>
      (hpc w S' (fun _ => 0) (fun _ _ => undef) vs (heap_nones as hnone hlow) (by omega) (fun i h1 h2 => hall i h1 h2)).mono fun e w' ⟨v, S'', bx', ph', he, hg⟩ => by subst he; exact hR v w' S'' bx' ph' hg
    have hno : ∀ t κ b, owns (as.map Arg.asRoot) (fun _ => 0) (fun _ _ => undef) t κ ≠ some b := fun t κ b hb => by
      rw [owns_none _ _ _ (nones_getD as hnone t)] at hb; cases hb
    dsimp only at hp
    -- what a call gives, added to a state
    have main : ∀ (st2 : St) (S2 : Nat → Prop), Rel T w0 S0 F st2 a w S2 bx ph → st2.s.length = st.s.length → st2.r.getD st.s.length .none = .none → (∀ b, S2 b → S' b) →
        (∀ z w' S'' bx' ph', Gives T w S' (as.map Arg.asRoot) (fun _ => 0) (fun _ _ => undef) cr.1 [] z w' S'' bx' ph' →
          ∀ o (ho : o < (cr.1.parts.flatMap (·.2)).length), RCRep T w' (fun b => S2 b ∨ (S'' b ∧ w.heap.size ≤ b)) (ph' 0 o) (cr.1.parts.flatMap (·.2))[o]) →
        ∀ z w' S'' bx' ph', Gives T w S' (as.map Arg.asRoot) (fun _ => 0) (fun _ _ => undef) cr.1 [] z w' S'' bx' ph' →
          Rels T w0 S0 F (fin { st2 with r := st2.r.set st.s.length (.loose (cr.1.parts.flatMap (·.2))) } dst (fun d => retV d cr.1)) (a.put dst z) w' ∧ Old w w' := by
      intro st2 S2 h2 hlen hsp2 hsub hcells z w' S'' bx' ph' hg
      have hold : Old w w' := fun b hb => hg.chg.block b hb fun ⟨t, κ, ho⟩ => hno t κ b ho
      have hcF : Chg (fun _ => False) w w' := hg.chg.mono fun b _ ⟨t, κ, ho⟩ => hno t κ b ho
      have h3 := h2.world hcF (fun _ _ hf => hf.elim)
      have hnew : ∀ t κ b, owns (.loose (cr.1.parts.flatMap (·.2)) :: []) bx' ph' t κ = some b → w.heap.size ≤ b := fun t κ b hb => by
        rcases hg.mine t κ b hb with h4 | ⟨t, κ, ho⟩
        · exact h4
        · exact absurd ho (hno t κ b)
      have h4 : Rel T w0 S0 F st2 a w' (fun b => S2 b ∨ (S'' b ∧ w.heap.size ≤ b)) bx ph := by
        refine ⟨h3.size, h3.rsize, h3.defers, ?_, h3.mine, fun i hi => (h3.slot i hi).mono fun v x hx => hx.frame (fun _ _ => rfl) (fun _ h => .inl h), fun b hb => .inl (h3.keep b hb), fun b hb => ?_, h3.chg⟩
        · refine h3.heap.frame (fun _ _ => rfl) (fun _ h => .inl h) (fun _ _ _ _ => rfl) (Nat.le_refl _) (fun t κ b hb hs => ?_) (fun b hb => ?_)
          · rcases hs with hs | hs
            · exact (h3.heap.free t κ b hb).1 hs
            · have := (h2.heap.free t κ b hb).2; omega
          · rcases hb with hb | hb
            · exact h3.heap.low b hb
            · exact hg.heap.low b hb.1
        · rcases hb with hb | hb
          · exact h3.new b hb
          · exact .inr (.inl (Nat.le_trans h.chg.size hb.2))
      have hsp3 : st2.r.getD st2.s.length .none = .none := by rw [hlen]; exact hsp2
      obtain ⟨h5, h6⟩ := addRoot h4 hsp3 hg.heap (hcells z w' S'' bx' ph' hg) (fun t κ b hb => by
        have h7 := hnew t κ b hb
        refine ⟨fun hs => ?_, fun t2 κ2 ho => ?_, .inl (Nat.le_trans h.chg.size h7)⟩
        · rcases hs with hs | hs
          · exact absurd (h2.heap.low b hs) (by omega)
          · exact (hg.heap.free t κ b hb).1 hs.1
        · exact absurd (h2.heap.free t2 κ2 b ho).2 (by omega))
      rw [hlen] at h5 h6
      refine ⟨fin_sound h5 (fun k hk => by show k < st2.s.length; rw [hlen]; exact hdst k hk) (fun k bx2 ph2 hk e1 e2 e3 hheap => ?_), hold⟩
      have e4 : ({ st2 with r := st2.r.set st.s.length (.loose (cr.1.parts.flatMap (·.2))) } : St).s.length = st.s.length := hlen
      rw [e4] at e1 e3
      refine retV_sound (row := cr.1.parts.flatMap (·.2)) (φ := ph' 0) rfl (fun o rc hrc => ?_) hg.val
      have e5 : (name { st2 with r := st2.r.set st.s.length (.loose (cr.1.parts.flatMap (·.2))) } k).r.getD k .none = .loose (cr.1.parts.flatMap (·.2)) := e3.trans h6
      have h8 := hheap.cell (t := k) (o := o) (rc := rc) (by rw [e5]; exact hrc)
      have h9 : ph2 k o = ph' 0 o := by rw [e1 o, if_pos rfl]
      rw [← h9]
      cases rc with
      | st c => exact h8
      | own e n cells => exact ⟨e, n, cells, by rw [e5]; exact hrc, rfl⟩
      | dead => trivial
    split at hp
    · simp only [Option.some.injEq, Prod.mk.injEq] at hp
      obtain ⟨rfl, rfl, rfl⟩ := hp
      obtain ⟨hen, hpc⟩ : Enters P f ∧ PC P T f as cr.1 [] := ho _ (List.mem_cons_self ..)
      refine ⟨hen, hfill hpc fun z w' S'' bx' ph' hg => ⟨z, rfl, ?_⟩⟩
      refine main _ S' hf.rel hf.len (hf.spare _ hsp) (fun _ h => h) (fun z w' S'' bx' ph' hg o ho => ?_) z w' S'' bx' ph' hg
      have := hg.heap.root 0
      exact (this o ho).frame (fun _ _ => rfl) (fun b hb => by
        rcases hg.new b hb with h1 | h1 | ⟨t, κ, h1⟩
        · exact .inl h1
        · exact .inr ⟨hb, h1⟩
        · exact absurd h1 (hno t κ b)) (fun _ _ => rfl)
    · rename_i hns
      simp only [Option.some.injEq, Prod.mk.injEq] at hp
      obtain ⟨rfl, rfl, rfl⟩ := hp
      obtain ⟨hen, hpc⟩ : Enters P f ∧ PC P T f as cr.1 [] := ho _ (List.mem_cons_self ..)
      refine ⟨hen, hfill hpc fun z w' S'' bx' ph' hg => ⟨z, rfl, ?_⟩⟩
      refine main st S h rfl hsp hf.keep (fun z w' S'' bx' ph' hg o hol => ?_) z w' S'' bx' ph' hg
      have h1 := hg.heap.root 0 o hol
      have hol : o < (cr.1.parts.flatMap (·.2)).length := hol
      have h2 : RC.slicy T ((cr.1.parts.flatMap (·.2))[o]'hol) = false := by
        cases hh : RC.slicy T ((cr.1.parts.flatMap (·.2))[o]'hol) with
        | false => rfl
        | true => exact absurd (List.any_eq_true.2 ⟨_, List.getElem_mem hol, hh⟩) hns
      have h3 : RC.plainObl (std P T) ((cr.1.parts.flatMap (·.2))[o]'hol) := ho _ (List.mem_cons_of_mem _ (List.mem_map.2 ⟨_, List.getElem_mem hol, rfl⟩))
      revert h1 h2 h3
      show RCRep T w' S'' (ph' 0 o) ((cr.1.parts.flatMap (·.2))[o]'hol) → _
      generalize (cr.1.parts.flatMap (·.2))[o]'hol = rc
      intro h1 h2 h3
      cases rc with
      | st c =>
        cases c with
        | val v => obtain ⟨q1, q2⟩ := crep_val h1; rw [q1]; exact CRep.val q2
        | sl n cells => simp [RC.slicy] at h2
        | nil => simp [RC.slicy] at h2
      | own e n cells =>
        obtain ⟨xs, x1, x2, x3⟩ := h1
        refine ⟨xs, x1, x2, fun k hk hk2 => ?_⟩
        obtain ⟨v, hv⟩ := h3 cells[k] (List.getElem_mem hk)
        have := x3 k hk hk2
        rw [hv] at this ⊢
        obtain ⟨q1, q2⟩ := crep_val this
        rw [q1]; exact CRep.val q2
      | dead => trivial
  · cases hp
end Go.Proofs.YtljnfejcdadjpaaDoor.A
