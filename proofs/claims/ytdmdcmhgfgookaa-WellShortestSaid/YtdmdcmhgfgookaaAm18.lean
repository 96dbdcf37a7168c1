/- The ghost machine, part 18: append and stores. -/
import Derived.Test.YtdmdcmhgfgookaaAm17
set_option linter.unusedSimpArgs false
set_option linter.unusedVariables false
set_option maxRecDepth 100000
set_option maxHeartbeats 4000000
namespace Go.Proofs.Ytdmdcmhgfgookaa.A
open Go Go.RowKit
variable {P : Program} {T : TT} {w w' w0 : World} {S S0 : Nat → Prop} {F : Fr} {bx : Nat → Nat} {ph : Nat → Nat → Pv} {a : Act} {st st' : St}

theorem append_sound (hT : TOk P T) (h : Rel T w0 S0 F st a w S bx ph) (hsp : st.r.getD st.s.length .none = .none) {t ty : TypeId} {U V : V} {u v : Value} {vf : Nat → A.V} {st1 : St} {obl : List Prop}
    (hv : VRep T w S st.r bx ph v V) (hu : VRep T w S st.r bx ph u U) (hp : appOp T (std P T) st t V U = some (vf, st1, obl)) (ho : ∀ p ∈ obl, p) {dst : Option Nat} (hdst : ∀ k, dst = some k → k < st.s.length) :
    ∃ z w', (Builtin.append_ #[t, t] ty #[v, u]).run P w = .ok z w' ∧ Rels T w0 S0 F (fin st1 dst vf) (a.put dst z) w' ∧ ((∃ c, V = .one (.c c)) → Old w w') := by
  unfold appOp at hp
  split at hp
  · rename_i ti hti
    split at hp
    · rename_i e hde
      split at hp
      · rename_i te hte
        have ud : P.underlying t = some (.slice e) := by rw [(hT t ti hti).1, hde]
        obtain ⟨_, ie, hie, his, hib, hiz, hzc⟩ := hT e te hte
        have hsz : szOf T e = te.size := by simp [szOf, hte]
        split at hp
        · rename_i b n cells hb
          split at hp
          · rename_i m cs obl' hn
            split at hp
            · cases hp
            · rename_i hnz
              have hz : te.size ≠ 0 := fun h => hnz (.inl h)
              have hby : te.bytes ≠ 0 := fun h => hnz (.inr h)
              rw [← hsz] at hb hn
              simp only [Option.some.injEq, Prod.mk.injEq] at hp
              obtain ⟨rfl, rfl, rfl⟩ := hp
              obtain ⟨xs, b1, b2, b3, b4, b5⟩ := base_sound h.heap hv hb
              obtain ⟨news, n1, n2, n3, n4⟩ := news_sound h.heap hu hn (fun p hp => ho p (List.mem_cons_of_mem _ hp)) (by rw [hsz]; exact hz)
              have hbytes : (n + m) * te.bytes ≤ 140737488355328 := by
                have : plus (std P T) n m * te.bytes ≤ 140737488355328 := ho _ (List.mem_cons_self ..)
                rwa [plus_std] at this
              have hmax : n + m ≤ maxLen := by
                have : n + m ≤ (n + m) * te.bytes := Nat.le_mul_of_pos_right _ (by omega)
                unfold maxLen; omega
              have hrun : ∃ z w', (Builtin.append_ #[t, t] ty #[v, u]).run P w = .ok z w' ∧ w'.ownsRow 0 e (szOf T e) z (n + m) (xs ++ news) ∧ w.grownBy w' v.ownBlock ∧ (z.ownBlock = v.ownBlock ∨ z.ownBlock = some w.heap.size) := by
                have hs1 : te.zero.cells.size = szOf T e := by rw [hzc, hsz]
                rcases n4 with ⟨rfl, aa, c, rfl⟩ | hsrc
                · have : news = [] := List.eq_nil_of_length_eq_zero (by rw [n1]; simp)
                  subst this
                  exact ⟨v, w, run_append_empty hT ud hte b1 aa c, by simpa using b1, World.grownBy.refl _ _, .inl rfl⟩
                · obtain ⟨z, w', r1, r2, _, r3, r4, _⟩ := run_append_src (P := P) w t ty 0 e ie te.zero (szOf T e) te.bytes ud hie hiz (by rw [his, hsz]) hib hs1 (by omega) v n xs b1 u m news n1 hsrc (fun u' hu' => by
                    obtain ⟨k, hk, rfl⟩ := List.mem_iff_getElem.1 hu'
                    exact crep_one (n3 k (by omega) hk)) hmax hbytes (Nat.zero_le _)
                  exact ⟨z, w', r1, r2, r3, r4⟩
              obtain ⟨z, w', r1, r2, r3, r4⟩ := hrun
              have hcg : Chg (fun b => v.ownBlock = some b) w w' := Chg.of_grown r3
              have hzb : ∀ g, z.ownBlock = some g → g < w'.heap.size ∧ (w.heap.size ≤ g ∨ v.ownBlock = some g) := fun g hg => by
                refine ⟨(r2.lt g hg).2, ?_⟩
                rcases r4 with r4 | r4
                · exact .inr (r4 ▸ hg)
                · rw [hg] at r4; cases r4; exact .inl (Nat.le_refl _)
              have hvS : ∀ g, v.ownBlock = some g → ¬ S g := fun g hg hs => by
                cases b with
                | none => rw [(b4 rfl).1] at hg; cases hg
                | some q => exact (h.heap.free _ _ g ((b5 q.1 q.2 rfl).2 g hg)).1 hs
              have hstab : ∀ {x : Value} {c : C}, CRep w S x c → CRep w' S x c := fun hx => hx.frame (fun g hg => r3.block g (h.heap.low.1 g hg) (fun hh => hvS g hh.symm hg)) fun _ h => h
              have hrc : RCRep T w' S (.of z) (.own e (plus (std P T) n m) (match b with | none => cs | some _ => (std P T).app cells cs)) := by
                rw [plus_std]
                cases b with
                | none =>
                  obtain ⟨_, _, b43⟩ := b4 rfl
                  have hx0 : xs = [] := List.eq_nil_of_length_eq_zero (by rw [b2, b43]; rfl)
                  refine ⟨xs ++ news, r2, by rw [hx0]; exact n2, fun k q1 q2 => ?_⟩
                  subst hx0
                  exact hstab (n3 k q1 (by simpa using q2))
                | some q =>
                  refine ⟨xs ++ news, r2, by rw [List.length_append, b2, n2]; exact (List.length_append ..).symm, fun k q1 q2 => ?_⟩
                  have hk1 : k < (cells ++ cs).length := q1
                  show CRep w' S (xs ++ news)[k] ((cells ++ cs)[k]'hk1)
                  by_cases hk : k < xs.length
                  · have hkc : k < cells.length := by omega
                    have e1 : (cells ++ cs)[k]'hk1 = cells[k] := List.getElem_append_left hkc
                    rw [List.getElem_append_left hk, e1]
                    exact hstab (b3 k (by omega) hk)
                  · have hk' : xs.length ≤ k := by omega
                    have hkc : cells.length ≤ k := by omega
                    have hk2 : k - cells.length < cs.length := by rw [List.length_append] at hk1; omega
                    have e1 : (cells ++ cs)[k]'hk1 = cs[k - cells.length] := List.getElem_append_right hkc
                    rw [List.getElem_append_right hk', e1]
                    have := n3 (k - cells.length) hk2 (by omega)
                    simp only [b2]
                    exact hstab this
              cases b with
              | none =>
                have hvn := (b4 rfl).1
                have hcF : Chg (fun _ => False) w w' := hcg.mono (fun k _ hk => by rw [hvn] at hk; cases hk)
                refine ⟨z, w', r1, ?_, fun _ g hg => hcF.block g hg (fun hf => hf)⟩
                exact own_fin h hsp hcF (fun _ _ hf => hf.elim) hrc (fun g hg => ⟨(hzb g hg).1, by
                  rcases (hzb g hg).2 with h1 | h1
                  · exact .inl h1
                  · rw [hvn] at h1; cases h1⟩) hdst
              | some q =>
                obtain ⟨t1, o1⟩ := q
                obtain ⟨q1, q2⟩ := b5 t1 o1 rfl
                refine ⟨z, w', r1, ?_, fun ⟨c, hc⟩ => ?_⟩
                · have hdead := dead_sound h t1 o1
                  have hlen : (kill (ofCell t1 o1) st.s).length = st.s.length := by simp [kill]
                  have := own_fin hdead (by
                    show (setCellR st.r t1 o1 .dead).getD (kill (ofCell t1 o1) st.s).length .none = .none
                    rw [hlen, getD_setCell, if_neg q1]; exact hsp) hcg (fun g _ hg => ?_) hrc hzb (dst := dst) (fun k hk => by
                    show k < (kill (ofCell t1 o1) st.s).length
                    rw [hlen]; exact hdst k hk)
                  · rw [show ({ s := kill (ofCell t1 o1) st.s, r := setCellR st.r t1 o1 .dead } : St).s.length = st.s.length from hlen] at this
                    exact this
                  · have hog := q2 g hg
                    refine ⟨(h.heap.free _ _ g hog).1, fun t' κ' ho' => ?_, h.mine _ _ g hog⟩
                    obtain ⟨h1, h2⟩ := owns_dead ho'
                    exact h2 (h.heap.inj _ _ _ _ g h1 hog)
                · subst hc
                  unfold appBase at hb
                  split at hb
                  · cases hb
                  · rename_i heq; cases heq
                  · rename_i heq; cases heq
                  · cases hb
          · cases hp
        · cases hp
      · cases hp
    · cases hp
  · cases hp
end Go.Proofs.Ytdmdcmhgfgookaa.A
