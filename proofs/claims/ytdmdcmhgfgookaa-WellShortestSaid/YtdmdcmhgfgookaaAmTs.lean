/- The ghost machine: trees are built, made, written. -/
import Derived.Test.YtdmdcmhgfgookaaAmTr
set_option linter.unusedSimpArgs false
set_option linter.unusedVariables false
set_option maxRecDepth 100000
set_option maxHeartbeats 4000000
namespace Go.Proofs.Ytdmdcmhgfgookaa.A
open Go Go.RowKit
variable {P : Program} {T : TT} {w w' w0 : World} {S S0 : Nat → Prop} {F : Fr} {bx : Nat → Nat} {ph : Nat → Nat → Pv} {a : Act} {st st' : St}

theorem build_run (hT : TOk P T) (h : Rel T w0 S0 F st a w S bx ph) {t e : TypeId} {te : TI} {len : Nat} {parts : Array (Nat × Operand)}
    (hd : descOf T t = .slice e) (hte : T e = some te) (hix : parts.toList.map (·.1) = List.range len) (hall : ∀ p ∈ parts.toList, (cellsOfV (ev st.s p.2)).length = te.size) (hsmall : len * te.size ≤ 2 ^ 24) (hz : te.size ≠ 0) :
    ∃ cells' : Array Value, (Instr.buildSlice t len (parts.map fun p => (p.1, a.eval p.2))).run P w = .ok (.slice (some ⟨w.heap.size, 0, none⟩) len len) (w.alloc (.cells cells' e)) ∧ cells'.toList.length = len * te.size ∧
      cells'.toList.length = ((parts.toList.map fun p => cellsOfV (ev st.s p.2)).flatten).length ∧
      ∀ k (h1 : k < ((parts.toList.map fun p => cellsOfV (ev st.s p.2)).flatten).length) (h2 : k < cells'.toList.length), XRep T w S st.r bx ph cells'.toList[k] ((parts.toList.map fun p => cellsOfV (ev st.s p.2)).flatten)[k] := by
  obtain ⟨_, ie, hie, his, hib, hiz, _⟩ := hT e te hte
  have ud := desc_of hT hd (by simp)
  have hlen : parts.toList.length = len := by have := congrArg List.length hix; simpa using this
  obtain ⟨f1, f2⟩ := flat_values (us := parts.toList.map fun p => ev st.s p.2) h.heap (vs := parts.toList.map fun p => a.eval p.2) (by simp) (fun k h1 h2 => by
    simp only [List.getElem_map]; exact ev_sound h _) (fun u hu => by
      obtain ⟨p, hp, rfl⟩ := List.mem_map.1 hu
      intro h0
      have := hall p hp
      rw [h0] at this
      exact hz this.symm)
  have e1 : ((parts.toList.map fun p => ev st.s p.2).map cellsOfV).flatten = (parts.toList.map fun p => cellsOfV (ev st.s p.2)).flatten := by rw [List.map_map]; rfl
  rw [e1] at f1 f2
  have hvsz : ∀ v ∈ parts.toList.map (fun p => a.eval p.2), v.cells.size = te.size := fun v hv => by
    obtain ⟨p, hp, rfl⟩ := List.mem_map.1 hv
    have hne : cellsOfV (ev st.s p.2) ≠ [] := fun h0 => by
      have := hall p hp
      rw [h0] at this; exact hz this.symm
    rw [(cellsOf_sound h.heap (ev_sound h p.2) hne).1]; exact hall p hp
  obtain ⟨cells', g1, g2⟩ := fill_range (sz := te.size) (parts.toList.map fun p => a.eval p.2) 0 (parts.map fun p => (p.1, a.eval p.2)).toList ((Array.range (len * ie.size)).map (te.zero.cells[· % te.zero.cells.size]!))
    (by
      simp only [Array.toList_map, List.map_map, List.length_map, hlen]
      have : (fun x => 0 + x) = (id : Nat → Nat) := by funext x; simp
      rw [this, List.map_id, ← hix]; rfl)
    (by simp only [Array.toList_map, List.map_map]; rfl) (by simp [hlen, his]) hvsz
  simp only [Nat.zero_mul, List.take_zero, List.nil_append] at g2
  have hrun : (Instr.buildSlice t len (parts.map fun p => (p.1, a.eval p.2))).run P w = .ok (.slice (some ⟨w.heap.size, 0, none⟩) len len) (w.alloc (.cells cells' e)) := by
    by_cases hz0 : len * te.size = 0
    · have hl0 : len = 0 := by
        rcases Nat.mul_eq_zero.1 hz0 with h0 | h0
        · exact h0
        · exact absurd h0 hz
      subst hl0
      have hp0 : parts = #[] := by
        apply Array.eq_empty_of_size_eq_zero; simpa using hlen
      subst hp0
      have hc0 : cells' = #[] := by
        apply Array.toList_inj.1; rw [g2]; rfl
      subst hc0
      simp [Instr.buildSlice, run_underlying ud, sizeOf, typeInfo, hie, newRow, Instr.fill, Array.range_zero']
    · exact run_buildSlice (P := P) w t e len _ cells' ie te.zero ud hie hiz (by rw [his]; omega) (by rw [his]; exact hz0) (by rw [his]; rw [his] at g1; exact g1)
  have hcl2 : cells'.toList.length = len * te.size := by
    rw [g2, f1]
    have key : ∀ l : List (Nat × Operand), (∀ p ∈ l, (cellsOfV (ev st.s p.2)).length = te.size) → ((l.map fun p => cellsOfV (ev st.s p.2)).flatten).length = l.length * te.size := fun l => by
      induction l with
      | nil => intro _; simp
      | cons p l ih =>
        intro hl
        rw [List.map_cons, List.flatten_cons, List.length_append, ih (fun q hq => hl q (List.mem_cons_of_mem _ hq)), hl p (List.mem_cons_self ..), List.length_cons, Nat.succ_mul]; omega
    rw [key _ hall, hlen]
  refine ⟨cells', hrun, hcl2, by rw [g2, f1], fun k h1 h2 => ?_⟩
  have q3 : k < ((parts.toList.map fun p => a.eval p.2).map fun v => v.cells.toList).flatten.length := by rw [← g2]; exact h2
  have e2 : cells'.toList[k] = (((parts.toList.map fun p => a.eval p.2).map fun v => v.cells.toList).flatten)[k] := by congr 1
  rw [e2]
  exact f2 k h1 q3

/-- a node of cells that are there -/
theorem node_of {e : TypeId} {ks : List Sh} {n cap g : Nat} {xs : List Value} {cs : List C} {qs : List Pv} (h1 : w.ownsRow 0 e (szOf T e) (.slice (some ⟨g, 0, none⟩) n cap) n xs) (h2 : cs.length = xs.length) (h3 : qs.length = xs.length)
    (h4 : ∀ k (a1 : k < xs.length) (a2 : k < qs.length) (a3 : k < cs.length), CRepT T w S none (ks.getD (k % szOf T e) .st) xs[k] qs[k] cs[k]) (h5 : g ∉ blksL qs) (h6 : (blksL qs).Nodup) :
    RCRep T w S (.mk (.slice (some ⟨g, 0, none⟩) n cap) (some g) qs) (.tree (.sl e ks) (.sl n cs) none) :=
  ⟨.node (by simp) (fun _ _ hh => by cases hh) h1 h2 h3 h4, by show ([g] ++ blksL qs).Nodup; exact List.nodup_cons.2 ⟨h5, h6⟩, ⟨_, _, rfl⟩, fun p hp => by cases hp⟩
theorem mem_node {v : Value} {g b : Nat} {qs : List Pv} : b ∈ (Pv.mk v (some g) qs).blks ↔ b = g ∨ b ∈ blksL qs := by
  show b ∈ [g] ++ blksL qs ↔ _
  simp

theorem treeBuild_sound (hT : TOk P T) (h : Rel T w0 S0 F st a w S bx ph) (hsp : st.r.getD st.s.length .none = .none) {t e : TypeId} {te : TI} {len : Nat} {parts : Array (Nat × Operand)} {cs : List C} {st1 : St}
    (hd : descOf T t = .slice e) (hte : T e = some te) (hix : parts.toList.map (·.1) = List.range len) (hall : ∀ p ∈ parts.toList, (cellsOfV (ev st.s p.2)).length = te.size) (hsmall : len * te.size ≤ 2 ^ 24) (hz : te.size ≠ 0)
    (hp : pushAll T (std P T) st (parts.toList.map fun p => cellsOfV (ev st.s p.2)).flatten = some st1) (hrow : rowT te.kids te.size 0 (rootOf st1.r st.s.length).row = some cs) {dst : Option Nat} (hdst : ∀ k, dst = some k → k < st.s.length) :
    ∃ z w', (Instr.buildSlice t len (parts.map fun p => (p.1, a.eval p.2))).run P w = .ok z w' ∧
      Rels T w0 S0 F (fin { dropN st1 with r := pushR (dropN st1).r st.s.length (.tree (.sl e te.kids) (.sl len cs) none) } dst (fun d => .one (.tv d 0 []))) (a.put dst z) w' ∧ Old w w' := by
  obtain ⟨cells', hrun, c1, c2, c3⟩ := build_run (a := a) hT h hd hte hix hall hsmall hz
  refine ⟨_, _, hrun, ?_, old_alloc _⟩
  have hszT : szOf T e = te.size := by simp [szOf, hte]
  have hb0 : ∀ row, st.r.getD st.s.length .none ≠ .box row := by rw [hsp]; exact fun _ h => by cases h
  obtain ⟨ph', q⟩ := pushAll_sound _ cells'.toList st ph h hb0 c2 c3 hp
  obtain ⟨rcs, r1, r2⟩ := q.row
  have hl0 : (st.r.getD st.s.length .none).row = [] := by rw [hsp]; rfl
  rw [hl0, List.nil_append] at r2
  have hvals : ∀ k (hk : k < cells'.toList.length), (ph' st.s.length k).v = cells'.toList[k] := fun k hk => by
    have := q.vals k hk
    rw [hl0] at this
    simpa using this
  have hrN : (rootOf st1.r st.s.length).row = rcs := r2
  rw [hrN] at hrow
  have hcell : ∀ k (hk : k < rcs.length), (st1.r.getD st.s.length .none).row[k]? = some rcs[k] := fun k hk => by rw [r2, List.getElem?_eq_getElem hk]
  obtain ⟨qs, s1, s2, s3, s4, s5⟩ := rowT_sound (φ := ph' st.s.length) (fun k hk => q.rel.heap.cell (hcell k hk)) hrow (fun k k' hk hk' b h1 h2 => by
    have := (q.rel.heap.inj _ _ _ _ b (own_blk (hcell k hk) h1) (own_blk (hcell k' hk') h2)).2
    simpa using this)
  have hqown : ∀ b, b ∈ blksL qs → ∃ k, owns st1.r bx ph' st.s.length (some k) b := fun b hb => by
    obtain ⟨k, hk, hb2⟩ := (s4 b).1 hb
    exact ⟨k, own_blk (hcell k hk) hb2⟩
  obtain ⟨d1, d2, d3, d4, d5⟩ := dropN_sound q.rel
  have hlt : ∀ b, b ∈ blksL qs → b < w.heap.size := fun b hb => by
    obtain ⟨k, hk⟩ := hqown b hb; exact (q.rel.heap.free _ _ _ hk).2
  have hlen3 : rcs.length = cells'.toList.length := r1
  have hlm : len ≤ maxLen := by
    have : len ≤ len * te.size := Nat.le_mul_of_pos_right _ (by omega)
    unfold maxLen; omega
  have hown : (w.alloc (.cells cells' e)).ownsRow 0 e (szOf T e) (.slice (some ⟨w.heap.size, 0, none⟩) len len) len cells'.toList := by
    refine ⟨by rw [hszT]; exact c1, .inr ⟨w.heap.size, len, cells', rfl, Nat.zero_le _, ?_, Nat.le_refl _, hlm, by rw [hszT, ← c1]; simp, by rw [hszT, List.take_of_length_le (by omega)]⟩⟩
    show (w.heap.push _)[_]? = _
    simp
  have hrc : RCRep T (w.alloc (.cells cells' e)) S (.mk (.slice (some ⟨w.heap.size, 0, none⟩) len len) (some w.heap.size) qs) (.tree (.sl e te.kids) (.sl len cs) none) := by
    refine node_of hown (by omega) (by omega) (fun k a1 a2 a3 => ?_) (fun hh => ?_) s5
    · have := s3 k a2 a3
      rw [Nat.zero_add, ← hszT, hvals k a1] at this
      exact this.frame (fun b hb => old_alloc _ b (q.rel.heap.low.1 b hb)) (fun _ h => h) fun b hb => old_alloc _ b (hlt b (mem_blksL.2 ⟨k, a2, hb⟩))
    · have := hlt _ hh; omega
  have := rc_fin d1 d2 (w' := w.alloc (.cells cells' e)) (W := fun b => b ∈ blksL qs) ((Chg.alloc (fun _ => False) w _).mono fun _ _ hf => hf.elim) (fun b _ hb => by
    obtain ⟨k, hk⟩ := hqown b hb
    refine ⟨(q.rel.heap.free _ _ _ hk).1, fun t κ ho => ?_, q.rel.mine _ _ _ hk⟩
    obtain ⟨n1, n2⟩ := d5 t κ b ho
    exact n1 ((q.rel.heap.inj _ _ _ _ b n2 hk).1.trans q.len.symm)) hrc (fun b hb => by
    rcases mem_node.1 hb with rfl | hb
    · exact ⟨by simp, .inl (Nat.le_refl _)⟩
    · exact ⟨by have := hlt b hb; simp; omega, .inr hb⟩) (dst := dst) (fun k hk => by rw [d3, q.len]; exact hdst k hk)
  rw [d3, q.len] at this
  exact this

/-- a flat slice of one's own, as a tree -/
theorem flat_tree {e : TypeId} {ks : List Sh} {z : Value} {n : Nat} {cells : List C} (h : RCRep T w S (.of z) (.own e n cells)) (hk : ∀ k (h : k < cells.length), toT (ks.getD (k % szOf T e) .st) (.st cells[k]) = some cells[k]) :
    ∃ pv : Pv, pv.v = z ∧ RCRep T w S pv (.tree (.sl e ks) (.sl n cells) none) ∧ ∀ b, b ∈ pv.blks ↔ z.ownBlock = some b := by
  obtain ⟨xs, h1, h2, h3⟩ := h
  have h1' : w.ownsRow 0 e (szOf T e) z n xs := h1
  rcases h1'.2 with ⟨hv, hn⟩ | ⟨g, cap, cur, hv, hB, hheap, hn, hc, hs, ht⟩
  · subst hv; subst hn
    have : cells = [] := List.eq_nil_of_length_eq_zero (by rw [← h2, h1'.1]; simp)
    subst this
    exact ⟨.mk nilSl none [], rfl, ⟨.nil (.inr rfl), by simp [Pv.blks, blksL], ⟨_, _, rfl⟩, fun p hp => by cases hp⟩, fun b => by simp [Pv.blks, blksL, Value.ownBlock]⟩
  · subst hv
    obtain ⟨qs, q1, q2⟩ := choose_list (n := xs.length) (R := fun k q => ∃ a1 : k < xs.length, ∃ a2 : k < cells.length, CRepT T w S none (ks.getD (k % szOf T e) .st) xs[k] q cells[k] ∧ q.blks = []) fun k hk1 => by
      have hk2 : k < cells.length := by omega
      obtain ⟨q, b1, b2, _⟩ := toT_sound (rc := .st cells[k]) (pv := .of xs[k]) (show RCRep T w S (.of xs[k]) (.st cells[k]) from h3 k hk2 hk1) (hk k hk2)
      exact ⟨q, hk1, hk2, b1, List.eq_nil_iff_forall_not_mem.2 fun b hb => (b2 b).1 hb⟩
    have hbl : blksL qs = [] := List.eq_nil_iff_forall_not_mem.2 fun b hb => by
      obtain ⟨k, hk1, hb2⟩ := mem_blksL.1 hb
      obtain ⟨_, _, _, b4⟩ := q2 k hk1
      rw [b4] at hb2; simp at hb2
    refine ⟨_, rfl, node_of (qs := qs) h1' (by omega) q1 (fun k a1 a2 a3 => ?_) (by rw [hbl]; simp) (by rw [hbl]; simp), fun b => ?_⟩
    · obtain ⟨_, _, b3, _⟩ := q2 k a2; exact b3
    · rw [mem_node, hbl]; simp [Value.ownBlock, eq_comm]
theorem treeMake_sound (hT : TOk P T) (h : Rel T w0 S0 F st a w S bx ph) (hsp : st.r.getD st.s.length .none = .none) {t e : TypeId} {te : TI} {l c : Int} {kl kc : IntKind} {zs zs' : List C}
    (hd : descOf T t = .slice e) (hte : T e = some te) (hzs : optAll ((cellsOfV (constV te.zero)).map (stab T (std P T) st.r)) = some zs) (hzl : zs.length = te.size) (hz : te.size ≠ 0) (hby : te.bytes ≠ 0)
    (hrow : rowT te.kids te.size 0 (zs.map RC.st) = some zs') (h0 : 0 ≤ l) (h1 : l ≤ c) (h2 : c.toNat * te.bytes ≤ 140737488355328) {dst : Option Nat} (hdst : ∀ k, dst = some k → k < st.s.length) :
    ∃ z w', (Instr.makeSlice t (.int kl l) (.int kc c)).run P w = .ok z w' ∧
      Rels T w0 S0 F (fin { st with r := pushR st.r st.s.length (.tree (.sl e te.kids) (.sl l.toNat (repC l.toNat zs')) none) } dst (fun d => .one (.tv d 0 []))) (a.put dst z) w' ∧ Old w w' := by
  obtain ⟨z, w', r1, r2, r3, r4, r5⟩ := make_core (kl := kl) (kc := kc) hT h hd hte hzs hzl hz hby h0 h1 h2
  have hszT : szOf T e = te.size := by simp [szOf, hte]
  obtain ⟨g1, g2⟩ := rowT_get hrow
  rw [List.length_map] at g1
  have hzz : zs' = zs := by
    apply List.ext_getElem g1
    intro k k1 k2
    have := g2 k (by simpa using k2) k1
    simp only [List.getElem_map, toT] at this
    split at this
    · exact (Option.some.inj this).symm
    · rename_i e1; rw [e1]; exact (Option.some.inj this).symm
    · cases this
  subst hzz
  obtain ⟨pv, p1, p2, p3⟩ := flat_tree (ks := te.kids) r2 (fun k hk => by
    obtain ⟨q3, q4⟩ := repC_get _ _ k hk
    rw [q4, hszT]
    have := g2 (k % zs'.length) (by simpa using q3) q3
    simp only [List.getElem_map, Nat.zero_add] at this
    have e1 : k % zs'.length % te.size = k % te.size := by rw [hzl]; exact Nat.mod_mod ..
    rw [e1] at this
    exact this)
  refine ⟨z, w', r1, ?_, r5⟩
  have := rc_fin h hsp (w' := w') (W := fun _ => False) (pv := pv) r3 (fun _ _ hf => hf.elim) p2 (fun b hb => by
    have := r4 b ((p3 b).1 hb); exact ⟨this.1, .inl this.2⟩) hdst
  rw [p1] at this
  exact this
end Go.Proofs.Ytdmdcmhgfgookaa.A
