/- The ghost machine, part 23: all operations that make or change memory; one operation. -/
import Derived.Test.YtljnfejcdadjpaaDoorAm22
set_option linter.unusedSimpArgs false
set_option linter.unusedVariables false
namespace Go.Proofs.YtljnfejcdadjpaaDoor.A
open Go Go.RowKit
variable {P : Program} {T : TT} {w w' w0 : World} {S S0 F : Nat → Prop} {bx : Nat → Nat} {ph : Nat → Nat → Value} {a : Act} {st st' : St}

/-- may the operation change a block that was there ? -/
def writes (st : St) (o : Oper) : Bool :=
  match o.op with
  | .store _ _ _ => true
  | .call { callee := .builtin .append, args, .. } =>
    match args.toList with
    | [x, _] => match ev st.s x with | .one (.c _) => false | _ => true
    | _ => true
  | _ => false

theorem wp_value {o : Oper} {K : Act → World → Prop} {Q : Exit → Act → World → Prop} {z : Value} (h : (execOp a.eval o).run P w = .ok (.value z) w') (hk : K (a.put o.dst z) w') : o.wp P a w K Q := by
  unfold Oper.wp; rw [h]; exact hk
theorem wp_skipped {o : Oper} {K : Act → World → Prop} {Q : Exit → Act → World → Prop} (h : (execOp a.eval o).run P w = .ok .skip w') (hk : K (a.put o.dst undef) w') : o.wp P a w K Q := by
  unfold Oper.wp; rw [h]; exact hk

theorem fin_undef (h : Rels T w0 S0 F st a w) {d : Option Nat} (hd : ∀ k, d = some k → k < st.s.length) : Rels T w0 S0 F (fin st d fun _ => .undef) (a.put d undef) w := by
  obtain ⟨S, bx, ph, h1, h2⟩ := h
  exact fin_sound h1 hd (fun _ _ _ _ _ _ _ _ => trivial)

theorem runOp_sound (hT : TOk P T) (h : Rel T w0 S0 F st a w S bx ph) (hsp : st.r.getD st.s.length .none = .none) {o : Oper} {cr : Option (RV × List Root)} {vf : Nat → V} {st1 : St} {obl : List Prop}
    (hp : runOp T (std P T) st o cr = some (vf, st1, obl)) (ho : ∀ p ∈ obl, p) (hd : ∀ k, o.dst = some k → k < st.s.length) {K : Act → World → Prop} {Q : Exit → Act → World → Prop}
    (hK : ∀ z w', Rels T w0 S0 F (fin st1 o.dst vf) (a.put o.dst z) w' → (writes st o = false → Old w w') → K (a.put o.dst z) w') : o.wp P a w K Q := by
  obtain ⟨dst, op, type, pos, after, guard⟩ := o
  unfold runOp at hp
  dsimp only at hp hK hd ⊢
  split at hp
  · rename_i e
    split at hp
    · rename_i ti hti
      obtain ⟨_, i, hi, _, _, hz, _⟩ := hT e ti hti
      split at hp
      · cases hp
      · rename_i hne
        split at hp
        · rename_i st2 hpu
          cases hp
          have hx : cellsOfV (constV ti.zero) ≠ [] := hne
          have := box_core h hsp (const_sound ti.zero) hx hpu hd e
          refine wp_value (z := .pointer (some ⟨w.heap.size, 0, none⟩)) (w' := w.alloc (.cells ti.zero.cells e)) ?_ (hK _ _ this fun _ => old_alloc _)
          simp [execOp, Instr.alloc, zeroValue, typeInfo, hi, hz, newVar, newRow]
        · cases hp
    · cases hp
  · rename_i e x
    split at hp
    · cases hp
    · rename_i hne
      split at hp
      · rename_i st2 hpu
        cases hp
        have := box_core h hsp (ev_sound h x) hne hpu hd e
        refine wp_value (z := .pointer (some ⟨w.heap.size, 0, none⟩)) (w' := w.alloc (.cells (a.eval x).cells e)) ?_ (hK _ _ this fun _ => old_alloc _)
        simp [execOp, Instr.box, newVar, newRow]
      · cases hp
  · rename_i t len parts
    split at hp
    · rename_i ti hti
      split at hp
      · rename_i e hde
        split at hp
        · rename_i te hte
          split at hp
          · cases hp
          · rename_i hc
            simp only [not_or, Bool.not_eq_true, Bool.not_eq_false] at hc
            obtain ⟨c1, c2, c3, c4⟩ := hc
            split at hp
            · rename_i cs hcs
              cases hp
              have hd' : descOf T t = .slice e := by unfold descOf; rw [hti]; exact hde
              obtain ⟨z, w', r1, r2, r3⟩ := buildSlice_sound hT h hsp hd' hte (by simpa using c1) (fun p hp => by
                have := List.all_eq_true.1 (by simpa using c2 : (parts.toList.map fun p => cellsOfV (ev st.s p.2)).all (fun u => u.length == te.size) = true) _ (List.mem_map.2 ⟨p, hp, rfl⟩)
                simpa using this) (by omega) c4 hcs hd
              refine wp_value (z := z) (w' := w') ?_ (hK _ _ r2 fun _ => r3)
              simp only [execOp, Sem.run_bind, r1]; rfl
            · cases hp
        · cases hp
      · cases hp
    · cases hp
  · rename_i t l c
    split at hp
    · rename_i ti li ci hti hl hc
      split at hp
      · rename_i e hde
        split at hp
        · rename_i te hte
          split at hp
          · rename_i zs hzs
            split at hp
            · cases hp
            · rename_i hcc
              simp only [not_or, ne_eq, Decidable.not_not] at hcc
              obtain ⟨c1, c2, c3⟩ := hcc
              cases hp
              have hd' : descOf T t = .slice e := by unfold descOf; rw [hti]; exact hde
              obtain ⟨kl, hkl⟩ := num_sound (ev_sound h l) hl
              obtain ⟨kc, hkc⟩ := num_sound (ev_sound h c) hc
              obtain ⟨z, w', r1, r2, r3⟩ := makeSlice_sound (kl := kl) (kc := kc) hT h hsp hd' hte hzs c1 c2 c3 (ho _ (List.mem_cons_self ..)) (ho _ (List.mem_cons_of_mem _ (List.mem_cons_self ..))) (ho _ (List.mem_cons_of_mem _ (List.mem_cons_of_mem _ (List.mem_cons_self ..)))) hd
              refine wp_value (z := z) (w' := w') ?_ (hK _ _ r2 fun _ => r3)
              simp only [execOp, hkl, hkc, Sem.run_bind, r1]; rfl
          · cases hp
        · cases hp
      · cases hp
    · cases hp
  · rename_i t x y
    split at hp
    · rename_i ti hti
      split at hp
      · cases hp
      · rename_i hc
        simp only [not_or, ne_eq, Decidable.not_not] at hc
        obtain ⟨c1, c2⟩ := hc
        have hne : cellsOfV (ev st.s y) ≠ [] := fun h0 => by rw [h0] at c1; exact c2 c1.symm
        have hxs := cellsOf_sound h.heap (ev_sound h y) hne
        have hux := ev_sound h x
        split at hp
        · rename_i t' o hx
          rw [hx] at hux
          split at hp
          · rename_i st2 hpu
            split at hp
            · rename_i row hrow
              split at hp
              · rename_i hc3
                cases hp
                obtain ⟨w', r1, r2⟩ := box_store_sound hT h hsp hti hux hxs c1 hpu hrow hc3.1 hc3.2
                refine wp_skipped (w' := w') ?_ (hK _ _ (fin_undef r2 (fun k hk => ?_)) (fun hw => by simp [writes] at hw))
                · simp only [execOp, Sem.run_bind, r1]; rfl
                · obtain ⟨_, _, _, q, _⟩ := r2
                  have := q.size
                  rw [← this, h.size]; exact hd k hk
              · cases hp
            · cases hp
          · cases hp
        · rename_i t' o k hx
          rw [hx] at hux
          split at hp
          · rename_i cs hcs
            split at hp
            · rename_i e n cells hown
              cases hp
              have hle : plus (std P T) k ti.size ≤ cells.length := ho _ (List.mem_cons_self ..)
              rw [plus_std] at hle
              obtain ⟨w', r1, S', r2⟩ := eptr_store_sound hT h hti hux hxs c1 hcs hown hle
              have hlen : ((cellsOfV (ev st.s y)).foldl (freezeX T (std P T)) st).s.length = st.s.length := by
                have := r2.size
                rw [h.size] at this
                exact this.symm
              refine wp_skipped (w' := w') ?_ (hK _ _ (fin_undef ⟨S', bx, ph, r2, ?_⟩ (fun k hk => ?_)) (fun hw => by simp [writes] at hw))
              · simp only [execOp, Sem.run_bind, r1]; rfl
              · obtain ⟨S2, hf, _⟩ := freezeAll_frz (P := P) (cellsOfV (ev st.s y)) st S h
                show (setCellR _ t' o _).getD ((cellsOfV (ev st.s y)).foldl (freezeX T (std P T)) st).s.length .none = .none
                rw [getD_setCell, hlen]
                split
                · rename_i e1; subst e1; rw [hf.spare _ hsp]; rfl
                · exact hf.spare _ hsp
              · show k < ((cellsOfV (ev st.s y)).foldl (freezeX T (std P T)) st).s.length
                rw [hlen]; exact hd k hk
            · cases hp
          · cases hp
        · cases hp
    · cases hp
  · rename_i src d2 x
    split at hp
    · rename_i td s htd hx hsrc
      split at hp
      · rename_i e hde
        split at hp
        · rename_i hu8
          cases hp
          have hux := ev_sound h x
          rw [hx] at hux
          have hv := (crep_val hux).1
          have hd' : descOf T d2 = .slice e := by unfold descOf; rw [htd]; exact hde
          obtain ⟨z, w', r1, r2, r3⟩ := bytes_sound hT h hsp (s := s) (desc_of hT hsrc (by simp)) hd' hu8 hd
          refine wp_value (z := z) (w' := w') ?_ (hK _ _ r2 fun _ => r3)
          simp only [execOp, hv, Sem.run_bind, r1]; rfl
        · cases hp
      · cases hp
    · cases hp
  · rename_i args ats
    split at hp
    · rename_i x y t u hax hat
      split at hp
      · rename_i htu
        subst htu
        obtain ⟨z, w', r1, r2, r3⟩ := append_sound (ty := type) hT h hsp (ev_sound h x) (ev_sound h y) hp ho hd
        obtain ⟨args⟩ := args
        obtain ⟨ats⟩ := ats
        simp only at hax hat
        subst hax; subst hat
        refine wp_value (z := z) (w' := w') ?_ (hK _ _ r2 fun hw => ?_)
        · simp [execOp, resolve, invoke, builtin, r1]
        · refine r3 ?_
          simp only [writes] at hw
          split at hw
          · rename_i c hc; exact ⟨c, hc⟩
          · cases hw
      · cases hp
    · cases hp
  · rename_i f args ats
    split at hp
    · rename_i f' cr' hf
      have huf := ev_sound h f
      rw [hf] at huf
      obtain ⟨hfv, _⟩ := huf
      obtain ⟨r1, r2⟩ := call_sound h hsp (vs := args.toList.map a.eval) (by simp) (vals_of h) hp ho hd
      unfold Oper.wp
      have hrun : (execOp a.eval ⟨dst, .call { callee := .value f, args := args, argTypes := ats }, type, pos, after, guard⟩).run P w = .ok (.enter f' (args.toList.map a.eval).toArray) w := by
        have := r1 (args.map a.eval) w
        have e1 : args.map a.eval = (args.toList.map a.eval).toArray := Array.toList_inj.1 (by simp)
        rw [e1] at this
        simp only [execOp, resolve, Deferred.ofValue, hfv, invoke, Sem.run_bind, Sem.run_pure, Result.andThen_ok]
        simpa [e1] using this
      rw [hrun]
      refine r2.mono fun e w' ⟨z, he, h1, h2⟩ => ?_
      subst he
      exact hK z w' h1 fun _ => h2
    · cases hp
  · cases hp
end Go.Proofs.YtljnfejcdadjpaaDoor.A
