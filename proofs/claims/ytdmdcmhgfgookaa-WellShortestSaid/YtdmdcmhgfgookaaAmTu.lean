/- The ghost machine: stores into trees. -/
import Derived.Test.YtdmdcmhgfgookaaAmTs
set_option linter.unusedSimpArgs false
set_option linter.unusedVariables false
set_option maxRecDepth 100000
set_option maxHeartbeats 4000000
namespace Go.Proofs.Ytdmdcmhgfgookaa.A
open Go Go.RowKit
variable {P : Program} {T : TT} {w w' w0 : World} {S S0 : Nat → Prop} {F : Fr} {bx : Nat → Nat} {ph : Nat → Nat → Pv} {a : Act} {st st' : St}

theorem fillObl_sound : ∀ (q p : Path) (k off n : Nat) (obl : List Prop), fillObl (std P T) p k off n q = some obl → (∀ x ∈ obl, x) → ∃ i, i < n ∧ pathN q = pathN p ++ [k + i] := by
  intro q
  induction q with
  | nil => intro p k off n obl h; cases p <;> cases h
  | cons x q ih =>
    obtain ⟨a, b⟩ := x
    intro p k off n obl h ho
    cases q with
    | nil =>
      cases p with
      | cons _ _ => cases h
      | nil =>
        simp only [fillObl] at h
        split at h
        · rename_i hc
          cases h
          have h1 : a ≤ plus (std P T) k (b - off) := ho _ (List.mem_cons_self ..)
          have h2 : plus (std P T) k (b - off) ≤ a := ho _ (List.mem_cons_of_mem _ (List.mem_cons_self ..))
          rw [plus_std] at h1 h2
          exact ⟨b - off, by omega, by show [a] = [k + (b - off)]; rw [show a = k + (b - off) by omega]⟩
        · cases h
    | cons y q =>
      cases p with
      | nil => cases h
      | cons z p =>
        obtain ⟨c, d⟩ := z
        simp only [fillObl] at h
        split at h
        · rename_i l hl
          cases h
          have h1 : a ≤ c := ho _ (List.mem_cons_self ..)
          have h2 : c ≤ a := ho _ (List.mem_cons_of_mem _ (List.mem_cons_self ..))
          obtain ⟨i, i1, i2⟩ := ih p k off n l hl (fun x hx => ho x (List.mem_cons_of_mem _ (List.mem_cons_of_mem _ hx)))
          refine ⟨i, i1, ?_⟩
          show a :: pathN (y :: q) = c :: (pathN p ++ [k + i])
          rw [i2, show a = c by omega]
        · cases h

theorem blksL_append (l r : List Pv) : blksL (l ++ r) = blksL l ++ blksL r := by
  induction l with
  | nil => rfl
  | cons x l ih => rw [List.cons_append, blksL, blksL, ih, List.append_assoc]

theorem node_write {h0 : Option (List Nat)} {e : TypeId} {ks : List Sh} {u : Value} {q : Pv} {c0 : C} {g n cap k m : Nat} {zs : List Value} {cs : List C} {qs : List Pv} {cur : Array Value}
    (hn : CRepT T w S h0 (.sl e ks) u q c0) (hb : q.b = some g) (hv : q.v = .slice (some ⟨g, 0, none⟩) n cap) (hzs : zs.length = m) (hcs : cs.length = m) (hqs : qs.length = m) (hfit : k + m ≤ (gc c0).length)
    (hheap : w.heap[g]? = some (.cells cur e (0, 0))) (hheap' : w'.heap[g]? = some (.cells (cur.toList.take k ++ zs ++ cur.toList.drop (k + m)).toArray e (0, 0)))
    (hS : ∀ b, S b → w'.heap[b]? = w.heap[b]?) (ho : ∀ b, b ∈ blksL q.kids → w'.heap[b]? = w.heap[b]?) (hh : h0 = none ∨ ∃ i, i < m ∧ h0 = some [k + i])
    (hz : ∀ i (a1 : i < zs.length) (a2 : i < qs.length) (a3 : i < cs.length), CRepT T w' S none (ks.getD ((k + i) % szOf T e) .st) zs[i] qs[i] cs[i]) :
    CRepT T w' S none (.sl e ks) u (.mk q.v (some g) (q.kids.take k ++ qs ++ q.kids.drop (k + m))) (.sl (gn c0) (setC (gc c0) k cs)) := by
  have hu := hn.val
  rcases hn.sl_cases (fun hb' => by rw [hb] at hb'; cases hb') with ⟨_, _, _, q4, _⟩ | ⟨g', cap', xs, q1, q2, q3, q4, q5, _, _, q8⟩
  · rw [hb] at q4; cases q4
  · rw [hb] at q1; cases q1
    rw [hv] at q2
    rw [hu, hv]
    rw [hv] at q3
    have hnn : n = gn c0 ∧ cap = cap' := by cases q2; exact ⟨rfl, rfl⟩
    obtain ⟨hnn, _⟩ := hnn
    obtain ⟨y10, y11⟩ := q3
    rcases y11 with ⟨hv', _⟩ | ⟨g2, cap2, cur2, hv', _, hheap2, hn2, hm2, hs2, ht2⟩
    · cases hv'
    · cases hv'
      rw [hheap] at hheap2; cases hheap2
      have hxs : k + m ≤ xs.length := by omega
      have hcl : xs.length ≤ cur.size := by rw [y10, hs2]; exact Nat.mul_le_mul_right _ hn2
      have hfit2 : k + m ≤ cur.toList.length := by rw [Array.length_toList]; omega
      have hkid : k + m ≤ q.kids.length := by omega
      have hset : setC (gc c0) k cs = (gc c0).take k ++ cs ++ (gc c0).drop (k + m) := by unfold setC; rw [hcs]
      rw [hset, ← hnn]
      refine .node (by simp) (fun _ _ hh => by cases hh) (xs := xs.take k ++ zs ++ xs.drop (k + m)) ⟨?_, .inr ⟨g, _, _, rfl, Nat.zero_le _, hheap', by rw [hnn]; exact hn2, hm2, ?_, ?_⟩⟩ ?_ ?_ fun j j1 j2 j3 => ?_
      · rw [spl_length hzs hxs, y10, hnn]
      · rw [List.size_toArray, spl_length hzs hfit2, Array.length_toList, hs2]
      · apply List.ext_getElem?
        intro j
        rw [List.getElem?_take, List.toList_toArray, spl_get hzs hfit2, spl_get hzs hxs, ← ht2, List.getElem?_take, hnn]
        by_cases hj : j < gn c0 * szOf T e
        · simp only [if_pos hj]
        · simp only [if_neg hj]
          rw [if_neg (by omega)]
      · rw [spl_length hcs hfit, spl_length hzs hxs, q4]
      · rw [spl_length hqs hkid, spl_length hzs hxs, q5]
      · have x1 := spl_get hzs hxs j
        have x2 := spl_get hqs hkid j
        have x3 := spl_get hcs hfit j
        have l1 : j < xs.length := by rw [spl_length hzs hxs] at j1; exact j1
        by_cases hj : k ≤ j ∧ j < k + m
        · rw [if_pos hj, List.getElem?_eq_getElem (show j - k < zs.length by omega)] at x1
          rw [if_pos hj, List.getElem?_eq_getElem (show j - k < qs.length by omega)] at x2
          rw [if_pos hj, List.getElem?_eq_getElem (show j - k < cs.length by omega)] at x3
          rw [get_of j1 x1, get_of j2 x2, get_of j3 x3]
          have := hz (j - k) (by omega) (by omega) (by omega)
          rw [show k + (j - k) = j by omega] at this
          exact this
        · rw [if_neg hj, List.getElem?_eq_getElem l1] at x1
          rw [if_neg hj, List.getElem?_eq_getElem (show j < q.kids.length by omega)] at x2
          rw [if_neg hj, List.getElem?_eq_getElem (show j < (gc c0).length by omega)] at x3
          rw [get_of j1 x1, get_of j2 x2, get_of j3 x3]
          have := q8 j l1 (by omega) (by omega)
          have hho : holeAt h0 j = none := by
            rcases hh with rfl | ⟨i, i1, rfl⟩
            · rfl
            · exact holeAt_ne (by omega)
          rw [hho] at this
          exact this.frame hS (fun _ h => h) fun b hb => ho b (mem_blksL.2 ⟨j, by omega, hb⟩)

theorem treeStore_sound (hT : TOk P T) (h : Rel T w0 S0 F st a w S bx ph) (hsp : st.r.getD st.s.length .none = .none) {t : TypeId} {ti : TI} (ht : T t = some ti) {t' o k off : Nat} {p : Path} {x u : Value} {xs : List X} {st1 : St} {sh : Sh} {c : C} {hh : Option Path} {e : TypeId} {ks : List Sh} {n : Nat} {cells : List C} {cs : List C} {obl : List Prop}
    (hu : XRep T w S st.r bx ph u (.tp t' o p k off)) (hx : XsRep T w S st.r bx ph x.cells xs) (hxl : xs.length = ti.size) (hz : ti.size ≠ 0) (hne : t' ≠ st.s.length) (hp : pushAll T (std P T) st xs = some st1)
    (htree : treeAt st1.r t' o = some (sh, c, hh)) (hnode : nodeAt (std P T) st1.r t' o p = some (e, ks, n, cells)) (hfit : off + ti.size ≤ szOf T e) (hrow : rowT ks (szOf T e) off (rootOf st1.r st.s.length).row = some cs)
    (hobl : (match (generalizing := false) hh with | none => some [] | some q => fillObl (std P T) p k off ti.size q) = some obl) (hok : ∀ q ∈ obl, q) (hle : k + ti.size ≤ cells.length) :
    ∃ w', (Instr.storeAt t u x).run P w = .ok () w' ∧
      Rels T w0 S0 F { s := kill (ofKid t' o (p.length + 1)) (dropN st1).s, r := setCellR (dropN st1).r t' o (.tree sh (updC (fun nd => .sl (gn nd) (setC (gc nd) k cs)) c p) none) } a w' := by
  have hb0 : ∀ row, st.r.getD st.s.length .none ≠ .box row := by rw [hsp]; exact fun _ h => by cases h
  obtain ⟨ph', q⟩ := pushAll_sound xs x.cells.toList st ph h hb0 (by rw [Array.length_toList]; exact hx.1) (fun k hk hk2 => by simpa using hx.2 k hk (by simpa using hk2)) hp
  obtain ⟨rcs, r1, r2⟩ := q.row
  have hl0 : (st.r.getD st.s.length .none).row = [] := by rw [hsp]; rfl
  rw [hl0, List.nil_append] at r2
  have hxs : x.cells.size = ti.size := by rw [hx.1, hxl]
  have hxt : x.cells.toList.length = ti.size := by rw [Array.length_toList, hxs]
  have hvals : ∀ k (hk : k < x.cells.toList.length), (ph' st.s.length k).v = x.cells.toList[k] := fun k hk => by
    have := q.vals k hk
    rw [hl0] at this
    simpa using this
  have hrN : (rootOf st1.r st.s.length).row = rcs := r2
  rw [hrN] at hrow
  have hcell : ∀ k (hk : k < rcs.length), (st1.r.getD st.s.length .none).row[k]? = some rcs[k] := fun k hk => by rw [r2, List.getElem?_eq_getElem hk]
  obtain ⟨qs, s1, s2, s3, s4, s5⟩ := rowT_sound (φ := ph' st.s.length) (fun k hk => q.rel.heap.cell (hcell k hk)) hrow (fun k k' hk hk' b h1 h2 => by
    have := (q.rel.heap.inj _ _ _ _ b (own_blk (hcell k hk) h1) (own_blk (hcell k' hk') h2)).2
    simpa using this)
  have hqown : ∀ b, b ∈ blksL qs → ∃ k, owns st1.r bx ph' st.s.length (some k) b := fun b hb => by
    obtain ⟨k, hk, hb2⟩ := (s4 b).1 hb
    exact ⟨k, own_blk (hcell k hk) hb2⟩
  obtain ⟨d1, d2, d3, d4, d5⟩ := dropN_sound q.rel
  -- the tree
  have hc1 := treeAt_eq htree
  have hsame : (st.r.getD t' .none).row[o]? = some (.tree sh c hh) := by
    rcases q.same t' o hne with h1 | h1
    · rw [← h1]; exact hc1
    · rw [hc1] at h1; cases h1
  obtain ⟨sh', c', hh', qn, e2, ks2, g, n2, cap, m1, m2, m3, m4, m5, m6, ⟨i0, m7⟩, rfl⟩ := hu
  rw [hsame] at m1; cases m1
  obtain ⟨sh2, c2, hh2, k1, k2, rfl, rfl⟩ := nodeAt_eq hnode
  rw [hc1] at k1; cases k1
  rw [k2] at m4; cases m4
  have hph : ph' t' o = ph t' o := q.phs t' o hne
  have hcd : ((dropN st1).r.getD t' .none).row[o]? = some (.tree sh c hh) := by
    rw [d4 t' (by rw [q.len]; exact hne)]; exact hc1
  have hrep := d1.heap.cell hcd
  obtain ⟨t1, t2, t3, t4⟩ := hrep
  rw [← hph] at m2
  have hgb : g ∈ qn.blks := by obtain ⟨v0, b0, ks0⟩ := qn; cases (show b0 = some g from m5); exact mem_blks.2 (.inl rfl)
  have hgt : g ∈ (ph' t' o).blks := Pv.get_blks p m2 g hgb
  obtain ⟨hp', uu, g1, _, _⟩ := CRepT.get p t1 m2 m3
  rw [k2] at g1
  obtain ⟨cur, hheap, hcur⟩ : ∃ cur : Array Value, w.heap[g]? = some (.cells cur e (0, 0)) ∧ (gc (atC c p)).length ≤ cur.size := by
    rcases g1.sl_cases (fun hb' => by rw [m5] at hb'; cases hb') with ⟨_, _, _, q4, _⟩ | ⟨g', cap', xs', q1, q2, q3, q4, q5, _, _, q8⟩
    · rw [m5] at q4; cases q4
    · rw [m5] at q1; cases q1
      rw [q2] at q3
      obtain ⟨y10, y11⟩ := q3
      rcases y11 with ⟨hv', _⟩ | ⟨g2, cap2, cur2, hv', _, hheap2, hn2, hm2, hs2, ht2⟩
      · cases hv'
      · cases hv'
        exact ⟨cur2, hheap2, by rw [q4, y10, hs2]; exact Nat.mul_le_mul_right _ hn2⟩
  have hfitc : k + ti.size ≤ cur.size := by omega
  have hrun := run_store_at (P := P) hT ht hheap hxs hfitc (xs_one h.heap hx (push_nu xs st st1 hp))
  have hcg := chg_setRow (w := w) g (cur.toList.take k ++ x.cells.toList ++ cur.toList.drop (k + ti.size)).toArray
  have hheap' : (w.setRow g (cur.toList.take k ++ x.cells.toList ++ cur.toList.drop (k + ti.size)).toArray).heap[g]? = some (.cells (cur.toList.take k ++ x.cells.toList ++ cur.toList.drop (k + ti.size)).toArray e (0, 0)) := setRow_heap w g cur _ e (0, 0) hheap
  refine ⟨_, hrun, ?_⟩
  generalize w.setRow g (cur.toList.take k ++ x.cells.toList ++ cur.toList.drop (k + ti.size)).toArray = w' at hcg hheap'
  have hgown : owns (dropN st1).r bx ph' t' (some o) g := own_blk hcd hgt
  have hS : ∀ b, S b → w'.heap[b]? = w.heap[b]? := fun b hb => hcg.block b (d1.heap.low.1 b hb) fun e => by subst e; exact (d1.heap.free _ _ _ hgown).1 hb
  have hqlt : ∀ b, b ∈ blksL qs → b < w.heap.size ∧ b ≠ g ∧ ¬ S b ∧ (∀ u κ, ¬ owns (dropN st1).r bx ph' u κ b) ∧ (w0.heap.size ≤ b ∨ F b) := fun b hb => by
    obtain ⟨k, hk⟩ := hqown b hb
    have hno : ∀ u κ, ¬ owns (dropN st1).r bx ph' u κ b := fun u κ ho => by
      obtain ⟨n1, n2⟩ := d5 u κ b ho
      exact n1 ((q.rel.heap.inj _ _ _ _ b n2 hk).1.trans q.len.symm)
    exact ⟨(q.rel.heap.free _ _ _ hk).2, fun e => by subst e; exact hno _ _ hgown, (q.rel.heap.free _ _ _ hk).1, hno, q.rel.mine _ _ _ hk⟩
  obtain ⟨rest, pb1, pb2⟩ := Pv.put_blks p m2
  obtain ⟨h0, hh0, hhm⟩ : ∃ h0 : Option (List Nat), (h0 = none ∨ ∃ i, i < ti.size ∧ h0 = some [k + i]) ∧ hh.map pathN = h0.map (pathN p ++ ·) := by
    cases hh with
    | none => exact ⟨none, .inl rfl, rfl⟩
    | some qq =>
      obtain ⟨i, i1, i2⟩ := fillObl_sound qq p k off ti.size obl hobl hok
      exact ⟨some [k + i], .inr ⟨i, i1, rfl⟩, by show some (pathN qq) = _; rw [i2]; rfl⟩
  rw [hhm] at t1
  have hndq : (qn.blks ++ rest).Nodup := pb1.nodup_iff.1 t2
  have hrl : rcs.length = ti.size := by rw [r1, hxt]
  have hkl : k + ti.size ≤ qn.kids.length := by
    rcases g1.sl_cases (fun hb' => by rw [m5] at hb'; cases hb') with ⟨_, _, _, q4, _⟩ | ⟨g', cap', xs', q1, q2, q3, q4, q5, _⟩
    · rw [m5] at q4; cases q4
    · omega
  have hqb : qn.blks = g :: blksL qn.kids := by obtain ⟨v0, b0, ks0⟩ := qn; cases (show b0 = some g from m5); rfl
  have hnew := CRepT.upd (w' := w') (q' := .mk qn.v (some g) (qn.kids.take k ++ qs ++ qn.kids.drop (k + ti.size))) (f := fun nd => .sl (gn nd) (setC (gc nd) k cs)) (h1 := none) p t1 m2 m3 t2 hS
    (fun b hb hb2 => hcg.block b (d1.heap.free _ _ _ (own_blk hcd hb)).2 fun e => hb2 (e ▸ hgb)) (fun u hu => by
      rw [k2] at hu ⊢
      refine node_write hu m5 m6 hxt (by omega) (by omega) hle hheap hheap' hS (fun b hb => ?_) hh0 (fun i a1 a2 a3 => ?_)
      · have hb2 : b ∈ qn.blks := by rw [hqb]; exact List.mem_cons_of_mem _ hb
        refine hcg.block b (d1.heap.free _ _ _ (own_blk hcd (Pv.get_blks p m2 b hb2))).2 fun e => ?_
        subst e
        have := (List.nodup_append.1 hndq).1
        rw [hqb] at this
        exact (List.nodup_cons.1 this).1 hb
      · have := s3 i a2 a3
        rw [hvals i a1] at this
        have hmod : (k + i) % szOf T e = (off + i) % szOf T e := by
          rw [m7, Nat.add_assoc, Nat.mul_comm, Nat.mul_add_mod]
        rw [hmod]
        exact this.frame hS (fun _ h => h) fun b hb => by
          have hb2 := mem_blksL.2 ⟨i, a2, hb⟩
          exact hcg.block b (hqlt b hb2).1 (hqlt b hb2).2.1)
  have hpb := pb2 (.mk qn.v (some g) (qn.kids.take k ++ qs ++ qn.kids.drop (k + ti.size)))
  have hq'b : (Pv.mk qn.v (some g) (qn.kids.take k ++ qs ++ qn.kids.drop (k + ti.size))).blks = g :: (blksL (qn.kids.take k) ++ blksL qs ++ blksL (qn.kids.drop (k + ti.size))) := by
    show [g] ++ blksL _ = _
    rw [blksL_append, blksL_append]; rfl
  have hkids : blksL qn.kids = blksL (qn.kids.take k) ++ (blksL ((qn.kids.drop k).take ti.size) ++ blksL (qn.kids.drop (k + ti.size))) := by
    rw [← blksL_append, ← blksL_append]
    congr 1
    rw [← List.drop_drop, List.take_append_drop, List.take_append_drop]
  have hsub : ∀ b, b ∈ blksL (qn.kids.take k) ∨ b ∈ blksL (qn.kids.drop (k + ti.size)) → b ∈ blksL qn.kids := fun b hb => by
    rw [hkids, List.mem_append, List.mem_append]
    rcases hb with hb | hb
    · exact .inl hb
    · exact .inr (.inr hb)
  have hdis : ∀ b, b ∈ blksL qs → b ∉ (ph' t' o).blks := fun b hb hb2 => (hqlt b hb).2.2.2.1 _ _ (own_blk hcd hb2)
  have hin : ∀ b, b ∈ qn.blks ++ rest → b ∈ (ph' t' o).blks := fun b hb => pb1.mem_iff.2 hb
  have hnd' : ((ph' t' o).put p (.mk qn.v (some g) (qn.kids.take k ++ qs ++ qn.kids.drop (k + ti.size)))).blks.Nodup := by
    rw [hpb.nodup_iff, hq'b]
    obtain ⟨n1, n2, n3⟩ := List.nodup_append.1 hndq
    rw [hqb] at n1
    obtain ⟨n4, n5⟩ := List.nodup_cons.1 n1
    rw [hkids] at n5
    obtain ⟨n6, n7, n8⟩ := List.nodup_append.1 n5
    obtain ⟨n9, n10, n11⟩ := List.nodup_append.1 n7
    refine List.nodup_append.2 ⟨List.nodup_cons.2 ⟨fun hg => ?_, List.nodup_append.2 ⟨List.nodup_append.2 ⟨n6, s5, fun b hb b' hb' e => ?_⟩, n10, fun b hb b' hb' e => ?_⟩⟩, n2, fun b hb b' hb' e => ?_⟩
    · rw [List.mem_append, List.mem_append] at hg
      rcases hg with (hg | hg) | hg
      · exact n4 (hsub g (.inl hg))
      · exact (hqlt g hg).2.1 rfl
      · exact n4 (hsub g (.inr hg))
    · subst e
      exact hdis b hb' (hin b (List.mem_append.2 (.inl (by rw [hqb]; exact List.mem_cons_of_mem _ (hsub b (.inl hb))))))
    · subst e
      rcases List.mem_append.1 hb with hb | hb
      · exact n8 b hb b (List.mem_append.2 (.inr hb')) rfl
      · exact hdis b hb (hin b (List.mem_append.2 (.inl (by rw [hqb]; exact List.mem_cons_of_mem _ (hsub b (.inr hb'))))))
    · subst e
      rcases List.mem_cons.1 hb with rfl | hb
      · exact n3 b hgb b hb' rfl
      · rw [List.mem_append, List.mem_append] at hb
        rcases hb with (hb | hb) | hb
        · exact n3 b (by rw [hqb]; exact List.mem_cons_of_mem _ (hsub b (.inl hb))) b hb' rfl
        · exact hdis b hb (hin b (List.mem_append.2 (.inr hb')))
        · exact n3 b (by rw [hqb]; exact List.mem_cons_of_mem _ (hsub b (.inr hb))) b hb' rfl
  have hvput : ((ph' t' o).put p (.mk qn.v (some g) (qn.kids.take k ++ qs ++ qn.kids.drop (k + ti.size)))).v = (ph' t' o).v := by
    cases p with
    | nil => rw [Pv.get_nil] at m2; cases m2; rw [Pv.put_nil]; rfl
    | cons y p => exact Pv.put_v (by simp)
  have hrep' : RCRep T w' S ((ph' t' o).put p (.mk qn.v (some g) (qn.kids.take k ++ qs ++ qn.kids.drop (k + ti.size)))) (.tree sh (updC (fun nd => .sl (gn nd) (setC (gc nd) k cs)) c p) none) := by
    refine ⟨?_, hnd', t3, fun p hp => by cases hp⟩
    rw [hvput]
    exact hnew
  obtain ⟨z1, z2⟩ := tree_turn d1 (W := fun b => b = g) (w' := w') hcd hcg (fun b hb => by subst hb; exact hgt) hvput hrep' (fun b hb => by
    rw [hpb.mem_iff, hq'b, List.mem_append, List.mem_cons, List.mem_append, List.mem_append] at hb
    rcases hb with (rfl | (hb | hb) | hb) | hb
    · exact .inl hgt
    · exact .inl (hin b (List.mem_append.2 (.inl (by rw [hqb]; exact List.mem_cons_of_mem _ (hsub b (.inl hb))))))
    · obtain ⟨y1, y2, y3, y4, y5⟩ := hqlt b hb
      exact .inr ⟨y3, Nat.lt_of_lt_of_le y1 hcg.size, y4, y5⟩
    · exact .inl (hin b (List.mem_append.2 (.inl (by rw [hqb]; exact List.mem_cons_of_mem _ (hsub b (.inr hb))))))
    · exact .inl (hin b (List.mem_append.2 (.inr hb)))) (ofKid t' o (p.length + 1)) (fun y v hk hoc hy => by
      exact view_stays hcd m2 (m := p.length + 1) (fun p' hp' => by
        by_cases e1 : p'.length < p.length
        · exact .inl e1
        · exact .inr ⟨by omega, rfl, m5.symm⟩) hy hoc hk)
  refine ⟨S, bx, _, z1, ?_⟩
  show (setCellR (dropN st1).r t' o _).getD (kill _ (dropN st1).s).length .none = .none
  have hl : (kill (ofKid t' o (p.length + 1)) (dropN st1).s).length = (dropN st1).s.length := by simp [kill]
  rw [hl, getD_setCell, if_neg (by rw [d3, q.len]; exact hne)]
  exact d2
end Go.Proofs.Ytdmdcmhgfgookaa.A
