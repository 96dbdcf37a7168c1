/- The ghost machine: append to what stands in a tree, and to a tree. -/
import Derived.Test.YtdmdcmhgfgookaaAmTu
set_option linter.unusedSimpArgs false
set_option linter.unusedVariables false
set_option maxRecDepth 100000
set_option maxHeartbeats 4000000
namespace Go.Proofs.Ytdmdcmhgfgookaa.A
open Go Go.RowKit
variable {P : Program} {T : TT} {w w' w0 : World} {S S0 : Nat → Prop} {F : Fr} {bx : Nat → Nat} {ph : Nat → Nat → Pv} {a : Act} {st st' : St}

theorem crept_one {hp : Option (List Nat)} {sh : Sh} {v : Value} {q : Pv} {c : C} (h : CRepT T w S hp sh v q c) : hp = none → v.oneCell' = true := by
  intro hn
  subst hn
  cases h with
  | st h => exact crep_one h
  | nil _ => rfl
  | node => rfl
/-- a slice of a tree, nil or not: its row -/
theorem tree_row {e : TypeId} {ks : List Sh} {v : Value} {q : Pv} {c : C} (h : CRepT T w S none (.sl e ks) v q c) : v = q.v ∧ ∃ xs : List Value, w.ownsRow 0 e (szOf T e) v (gn c) xs ∧ (gc c).length = xs.length ∧ q.kids.length = xs.length ∧
    (∀ g, v.ownBlock = some g → g ∈ q.blks ∧ (q.blks.Nodup → g ∉ blksL q.kids)) ∧ (∀ b, b ∈ blksL q.kids → b ∈ q.blks) ∧ (q.blks.Nodup → (blksL q.kids).Nodup) ∧
    ∀ k (h1 : k < xs.length) (h2 : k < q.kids.length) (h3 : k < (gc c).length), CRepT T w S none (ks.getD (k % szOf T e) .st) xs[k] q.kids[k] (gc c)[k] := by
  have hv := h.val
  refine ⟨hv, ?_⟩
  have hbn : q.b = none → q.v = nilSl := fun hb => by
    rcases h.bval hb with h1 | h1
    · exact h1
    · cases h1
  obtain ⟨v0, b0, k0⟩ := q
  rcases h.sl_cases hbn with ⟨h1, h2, h3, h4, h5⟩ | ⟨g, cap, xs, h1, h2, h3, h4, h5, h6, _, h8⟩
  · have h1' : v0 = nilSl := h1
    have h5' : k0 = [] := h5
    subst h5'
    rw [hv, h2, h3]
    show ∃ xs : List Value, w.ownsRow 0 e (szOf T e) v0 0 xs ∧ _
    rw [h1']
    exact ⟨[], World.ownsRow_nil _ _ _ _, rfl, rfl, fun g hg => (by cases hg), fun b hb => (by cases hb), fun _ => (by show ([] : List Nat).Nodup; simp), fun k hk => absurd hk (by simp)⟩
  · have h1' : b0 = some g := h1
    subst h1'
    have h2' : v0 = .slice (some ⟨g, 0, none⟩) (gn c) cap := h2
    rw [hv]
    refine ⟨xs, h3, h4, h5, fun g' hg => ?_, fun b hb => mem_node.2 (.inr hb), fun hnd => ?_, h8⟩
    · have hg' : v0.ownBlock = some g' := hg
      rw [h2'] at hg'
      cases hg'
      refine ⟨mem_node.2 (.inl rfl), fun hnd => ?_⟩
      have : ([g] ++ blksL k0).Nodup := hnd
      exact (List.nodup_cons.1 this).1
    · have : ([g] ++ blksL k0).Nodup := hnd
      exact (List.nodup_cons.1 this).2

/-- what stands at the end of a way is taken out -/
theorem treeBase_sound (h : Rel T w0 S0 F st a w S bx ph) (hsp : st.r.getD st.s.length .none = .none) {t o : Nat} {p : Path} {v : Value} {sh : Sh} {c : C} {e : TypeId} {ks : List Sh} {n : Nat} {cells : List C} {st1 : St}
    (hv : XRep T w S st.r bx ph v (.tv t o p)) (hp : treeBase (std P T) st t o p = some (sh, c, e, ks, n, cells, st1)) :
    t ≠ st.s.length ∧ (st.r.getD t .none).row[o]? = some (.tree sh c none) ∧ ∃ q ph1, CRepT T w S none (.sl e ks) v q (atC c p) ∧ n = gn (atC c p) ∧ cells = gc (atC c p) ∧ q.blks.Nodup ∧ (∀ b, b ∈ q.blks → owns st.r bx ph t (some o) b) ∧
      Rel T w0 S0 F st1 a w S bx ph1 ∧ st1.s.length = st.s.length ∧ st1.r.getD st.s.length .none = .none ∧ (∀ u κ b, owns st1.r bx ph1 u κ b → owns st.r bx ph u κ b ∧ b ∉ q.blks) ∧
      (∀ u o', ¬ (u = t ∧ o' = o) → (st1.r.getD u .none).row[o']? = (st.r.getD u .none).row[o']? ∧ ph1 u o' = ph u o') := by
  unfold treeBase at hp
  split at hp
  · rename_i sh0 c0 htree
    split at hp
    · cases hp
    · rename_i hne
      split at hp
      · rename_i e0 ks0 hto
        simp only [Option.some.injEq, Prod.mk.injEq] at hp
        obtain ⟨rfl, rfl, rfl, rfl, rfl, rfl, rfl⟩ := hp
        have hc := treeAt_eq htree
        obtain ⟨sh', c', hh', q, m1, m2, m3, m4, m5, rfl⟩ := hv
        rw [hc] at m1; cases m1
        obtain ⟨t1, t2, t3, t4⟩ := h.heap.cell hc
        obtain ⟨hp', u, g1, g2, g3⟩ := CRepT.get p t1 m2 m3
        have := g2 rfl
        subst this
        rw [hto] at g1
        have hu := g1.val
        rw [hu] at g1
        have hqb : ∀ b, b ∈ q.blks → owns st.r bx ph t (some o) b := fun b hb => own_blk hc (Pv.get_blks p m2 b hb)
        obtain ⟨rest, pb1, pb2⟩ := Pv.put_blks p m2
        have hndq : (q.blks ++ rest).Nodup := pb1.nodup_iff.1 t2
        refine ⟨hne, hc, q, ?_⟩
        rw [lenJ_std, clsJ_std, atJ_std]
        cases p with
        | nil =>
          refine ⟨ph, g1, rfl, rfl, (List.nodup_append.1 hndq).1, hqb, dead_sound h t o, by simp [kill], ?_, fun u κ b hb => ?_, fun u o' hne' => ⟨?_, rfl⟩⟩
          · rw [getD_setCell, if_neg hne]; exact hsp
          · obtain ⟨h1, h2⟩ := owns_dead hb
            refine ⟨h1, fun hb2 => h2 (h.heap.inj _ _ _ _ b h1 (hqb b hb2))⟩
          · show ((setCellR st.r t o .dead).getD u .none).row[o']? = _
            rw [row_setCell]
            split
            · rename_i e1; subst e1
              rw [List.getElem?_set, if_neg (fun e => hne' ⟨rfl, e.symm⟩)]
            · rfl
        | cons x p =>
          have hnew := CRepT.upd (w' := w) (q' := .mk q.v none []) (f := fun _ => holeC) (h0 := none) (h1 := some []) (x :: p) t1 m2 m3 t2 (fun _ _ => rfl) (fun _ _ _ => rfl) (fun u hu => by
            rw [hto] at hu
            rw [hu.val]
            exact .hole)
          have hpb := pb2 (.mk q.v none [])
          have hpb' : ((ph t o).put (x :: p) (.mk q.v none [])).blks.Perm rest := by simpa [Pv.blks, blksL] using hpb
          have hvput : ((ph t o).put (x :: p) (.mk q.v none [])).v = (ph t o).v := Pv.put_v (by simp)
          have hrep' : RCRep T w S ((ph t o).put (x :: p) (.mk q.v none [])) (.tree sh0 (updC (fun _ => holeC) c0 (x :: p)) (some (x :: p))) := by
            refine ⟨?_, hpb'.nodup_iff.2 (List.nodup_append.1 hndq).2.1, t3, fun p' hp' => ?_⟩
            · rw [hvput]
              have e1 : (some (x :: p)).map pathN = (some []).map (pathN (x :: p) ++ ·) := by simp
              rw [e1]; exact hnew
            · cases hp'; exact ⟨by simp, m3⟩
          obtain ⟨z1, z2⟩ := tree_turn h (W := fun _ => False) (w' := w) hc (Chg.refl _ w) (fun _ hf => hf.elim) hvput hrep' (fun b hb => .inl (pb1.mem_iff.2 (List.mem_append.2 (.inr (hpb'.mem_iff.1 hb))))) (ofKid t o (x :: p).length) (fun y v hk hoc hy =>
            view_stays hc m2 (m := (x :: p).length) (fun p' hp' => .inl hp') hy hoc hk)
          have hl : (kill (ofKid t o (x :: p).length) st.s).length = st.s.length := by simp [kill]
          rw [show updJ (std P T) (fun _ => holeC) c0 (x :: p) = updC (fun _ => holeC) c0 (x :: p) from updJ_std _ _ _]
          refine ⟨_, g1, rfl, rfl, (List.nodup_append.1 hndq).1, hqb, z1, hl, ?_, fun u κ b hb => ?_, fun u o' hne' => ⟨?_, if_neg hne'⟩⟩
          · show (setCellR st.r t o _).getD st.s.length .none = .none
            rw [getD_setCell, if_neg hne]; exact hsp
          · rcases z2 u κ b hb with ⟨rfl, rfl, h1⟩ | ⟨h1, h2⟩
            · have hr := hpb'.mem_iff.1 h1
              exact ⟨own_blk hc (pb1.mem_iff.2 (List.mem_append.2 (.inr hr))), fun hq => (List.nodup_append.1 hndq).2.2 b hq b hr rfl⟩
            · exact ⟨h1, fun hq => h2 (h.heap.inj _ _ _ _ b h1 (hqb b hq))⟩
          · show ((setCellR st.r t o _).getD u .none).row[o']? = _
            rw [row_setCell]
            split
            · rename_i e1; subst e1
              rw [List.getElem?_set, if_neg (fun e => hne' ⟨rfl, e.symm⟩)]
            · rfl
      · cases hp
  · cases hp

/-- append, run -/
theorem app_run (hT : TOk P T) {t ty e : TypeId} {te : TI} (hd : P.underlying t = some (.slice e)) (hte : T e = some te) (hz : te.size ≠ 0) (hby : te.bytes ≠ 0) {v u : Value} {n m : Nat} {xs news : List Value}
    (b1 : w.ownsRow 0 e (szOf T e) v n xs) (n1 : news.length = m * szOf T e) (hone : ∀ x ∈ news, x.oneCell' = true) (n4 : (m = 0 ∧ ∃ aa c, u = .slice aa 0 c) ∨ Src w u m news) (hbytes : (n + m) * te.bytes ≤ 140737488355328) :
    ∃ z w', (Builtin.append_ #[t, t] ty #[v, u]).run P w = .ok z w' ∧ w'.ownsRow 0 e (szOf T e) z (n + m) (xs ++ news) ∧ w.grownBy w' v.ownBlock ∧ (z.ownBlock = v.ownBlock ∨ z.ownBlock = some w.heap.size) := by
  obtain ⟨_, ie, hie, his, hib, hiz, hzc⟩ := hT e te hte
  have hsz : szOf T e = te.size := by simp [szOf, hte]
  have hs1 : te.zero.cells.size = szOf T e := by rw [hzc, hsz]
  have hmax : n + m ≤ maxLen := by
    have : n + m ≤ (n + m) * te.bytes := Nat.le_mul_of_pos_right _ (by omega)
    unfold maxLen; omega
  rcases n4 with ⟨rfl, aa, c, rfl⟩ | hsrc
  · have : news = [] := List.eq_nil_of_length_eq_zero (by rw [n1]; simp)
    subst this
    exact ⟨v, w, run_append_empty hT hd hte b1 aa c, by simpa using b1, World.grownBy.refl _ _, .inl rfl⟩
  · obtain ⟨z, w', r1, r2, _, r3, r4, _⟩ := run_append_src (P := P) w t ty 0 e ie te.zero (szOf T e) te.bytes hd hie hiz (by rw [his, hsz]) hib hs1 (by omega) v n xs b1 u m news n1 hsrc hone hmax hbytes (Nat.zero_le _)
    exact ⟨z, w', r1, r2, r3, r4⟩

/-- a kid that holds plain cells grows -/
theorem kidApp_sound (hT : TOk P T) (h : Rel T w0 S0 F st a w S bx ph) (hsp : st.r.getD st.s.length .none = .none) {t ty e e1 : TypeId} {te : TI} {U : V} {u v : Value} {t1 o1 : Nat} {p1 : Path} {sh : Sh} {c : C} {ks : List Sh} {n m : Nat} {cells cs : List C} {st1 : St} {obl : List Prop}
    (hd : P.underlying t = some (.slice e)) (hte : T e = some te) (hz : te.size ≠ 0) (hby : te.bytes ≠ 0) (hv : XRep T w S st.r bx ph v (.tv t1 o1 p1)) (hu : VRep T w S st.r bx ph u U) (hb : treeBase (std P T) st t1 o1 p1 = some (sh, c, e, ks, n, cells, st1))
    (hn : appNews (std P T) st e te.size none U = some (m, cs, obl)) (ho : ∀ p ∈ obl, p) (hst : allSt ks = true) (hbytes : (n + m) * te.bytes ≤ 140737488355328) {dst : Option Nat} (hdst : ∀ k, dst = some k → k < st.s.length) :
    ∃ z w', (Builtin.append_ #[t, t] ty #[v, u]).run P w = .ok z w' ∧ Rels T w0 S0 F (fin { st1 with r := pushR st1.r st.s.length (.own e (n + m) (cells ++ cs)) } dst (fun d => .one (.view d 0))) (a.put dst z) w' := by
  have hsz : szOf T e = te.size := by simp [szOf, hte]
  obtain ⟨hne, hc, q, ph1, a1, rfl, rfl, a4, a5, a6, a7, a8, a9, _⟩ := treeBase_sound h hsp hv hb
  obtain ⟨hvv, xs, b1, b2, b3, b4, _, _, b7⟩ := tree_row a1
  rw [← hsz] at hn
  obtain ⟨news, n1, n2, n3, n4⟩ := news_sound h.heap hu hn ho (by rw [hsz]; exact hz)
  obtain ⟨z, w', r1, r2, r3, r4⟩ := app_run hT hd hte hz hby b1 n1 (fun x hx => by
    obtain ⟨k, hk, rfl⟩ := List.mem_iff_getElem.1 hx
    exact crep_one (n3 k (by omega) hk)) n4 hbytes (ty := ty)
  refine ⟨z, w', r1, ?_⟩
  have hcg : Chg (fun b => v.ownBlock = some b) w w' := Chg.of_grown r3
  have hvS : ∀ g, v.ownBlock = some g → ¬ S g ∧ (∀ u κ, ¬ owns st1.r bx ph1 u κ g) ∧ (w0.heap.size ≤ g ∨ F g) := fun g hg => by
    have hgq := (b4 g hg).1
    exact ⟨(h.heap.free _ _ g (a5 g hgq)).1, fun u κ ho => (a9 u κ g ho).2 hgq, h.mine _ _ g (a5 g hgq)⟩
  have hstab : ∀ {x : Value} {c : C}, CRep w S x c → CRep w' S x c := fun hx => hx.frame (fun g hg => r3.block g (h.heap.low.1 g hg) (fun hh => (hvS g hh.symm).1 hg)) fun _ h => h
  have hrc : RCRep T w' S (.of z) (.own e (gn (atC c p1) + m) (gc (atC c p1) ++ cs)) := by
    refine ⟨xs ++ news, r2, by rw [List.length_append, List.length_append]; omega, fun k q1 q2 => ?_⟩
    by_cases hk : k < xs.length
    · have hkc : k < (gc (atC c p1)).length := by omega
      have e1 : (gc (atC c p1) ++ cs)[k]'q1 = (gc (atC c p1))[k] := List.getElem_append_left hkc
      rw [List.getElem_append_left hk, e1]
      have := b7 k hk (by omega) hkc
      rw [allSt_get hst] at this
      generalize xs[k] = xx at this ⊢
      generalize (gc (atC c p1))[k] = cc at this ⊢
      generalize q.kids[k] = qq at this
      cases this with
      | st hh => exact hstab hh
    · have hk2 : k - (gc (atC c p1)).length < cs.length := by rw [List.length_append] at q1; omega
      have e1 : (gc (atC c p1) ++ cs)[k]'q1 = cs[k - (gc (atC c p1)).length] := List.getElem_append_right (by omega)
      rw [List.getElem_append_right (by omega), e1]
      have := n3 (k - (gc (atC c p1)).length) hk2 (by omega)
      simp only [← b2]
      exact hstab this
  have := rc_fin a6 (by rw [a7]; exact a8) (w' := w') (W := fun b => v.ownBlock = some b) hcg (fun b _ hb => hvS b hb) hrc (fun g hg => by
    have hg' : z.ownBlock = some g := hg
    refine ⟨(r2.lt g hg').2, ?_⟩
    rcases r4 with r4 | r4
    · exact .inr (r4 ▸ hg')
    · rw [hg'] at r4; cases r4; exact .inl (Nat.le_refl _)) (dst := dst) (fun k hk => by rw [a7]; exact hdst k hk)
  rw [a7] at this
  exact this

/-- elements that own what they hold, behind others -/
theorem treeApp_core (hT : TOk P T) {ph1 : Nat → Nat → Pv} (h : Rel T w0 S0 F st a w S bx ph1) (hsp : st.r.getD st.s.length .none = .none) {t ty e : TypeId} {te : TI} {u v : Value} {ks : List Sh} {n m : Nat} {cells cs : List C} {xs news : List Value} {kb kn : List Pv} {W : Nat → Prop}
    (hd : P.underlying t = some (.slice e)) (hte : T e = some te) (hz : te.size ≠ 0) (hby : te.bytes ≠ 0) (hbytes : (n + m) * te.bytes ≤ 140737488355328)
    (b1 : w.ownsRow 0 e (szOf T e) v n xs) (b2 : cells.length = xs.length) (b3 : kb.length = xs.length) (b4 : ∀ k (h1 : k < xs.length) (h2 : k < kb.length) (h3 : k < cells.length), CRepT T w S none (ks.getD (k % szOf T e) .st) xs[k] kb[k] cells[k])
    (n1 : w.ownsRow 0 e (szOf T e) u m news) (n2 : cs.length = news.length) (n3 : kn.length = news.length) (n4 : ∀ k (h1 : k < news.length) (h2 : k < kn.length) (h3 : k < cs.length), CRepT T w S none (ks.getD (k % szOf T e) .st) news[k] kn[k] cs[k])
    (hW : ∀ b, W b → ¬ S b ∧ b < w.heap.size ∧ (∀ t κ, ¬ owns st.r bx ph1 t κ b) ∧ (w0.heap.size ≤ b ∨ F b)) (hWv : ∀ g, v.ownBlock = some g → W g ∧ g ∉ blksL kb ∧ g ∉ blksL kn) (hWk : ∀ b, b ∈ blksL kb ∨ b ∈ blksL kn → W b) (hnd : (blksL kb ++ blksL kn).Nodup)
    {dst : Option Nat} (hdst : ∀ k, dst = some k → k < st.s.length) :
    ∃ z w', (Builtin.append_ #[t, t] ty #[v, u]).run P w = .ok z w' ∧ Rels T w0 S0 F (fin { st with r := pushR st.r st.s.length (.tree (.sl e ks) (.sl (n + m) (cells ++ cs)) none) } dst (fun d => .one (.tv d 0 []))) (a.put dst z) w' ∧ (v = nilSl → Old w w') := by
  have hsz : szOf T e = te.size := by simp [szOf, hte]
  obtain ⟨z, w', r1, r2, r3, r4⟩ := app_run hT hd hte hz hby b1 n1.1 (fun x hx => by
    obtain ⟨k, hk, rfl⟩ := List.mem_iff_getElem.1 hx
    exact crept_one (n4 k hk (by omega) (by omega)) rfl) (.inr (Src.of_owns n1)) hbytes (ty := ty)
  have hcg0 : Chg (fun b => v.ownBlock = some b) w w' := Chg.of_grown r3
  have hcg : Chg W w w' := hcg0.mono fun b _ hb => (hWv b hb).1
  refine ⟨z, w', r1, ?_, fun hv g hg => hcg0.block g hg fun hh => by rw [hv] at hh; cases hh⟩
  have hS : ∀ b, S b → w'.heap[b]? = w.heap[b]? := fun b hb => hcg0.block b (h.heap.low.1 b hb) fun hh => (hW b (hWv b hh).1).1 hb
  have hK : ∀ b, b ∈ blksL kb ∨ b ∈ blksL kn → w'.heap[b]? = w.heap[b]? := fun b hb => hcg0.block b (hW b (hWk b hb)).2.1 fun hh => by
    rcases hb with hb | hb
    · exact (hWv b hh).2.1 hb
    · exact (hWv b hh).2.2 hb
  have hmn : n * szOf T e = xs.length := b1.1.symm
  have hkids : ∀ k (h1 : k < (xs ++ news).length) (h2 : k < (kb ++ kn).length) (h3 : k < (cells ++ cs).length), CRepT T w' S none (ks.getD (k % szOf T e) .st) (xs ++ news)[k] (kb ++ kn)[k] (cells ++ cs)[k] := fun k h1 h2 h3 => by
    by_cases hk : k < xs.length
    · rw [List.getElem_append_left hk, List.getElem_append_left (show k < kb.length by omega), List.getElem_append_left (show k < cells.length by omega)]
      exact (b4 k hk (by omega) (by omega)).frame hS (fun _ h => h) fun b hb => hK b (.inl (mem_blksL.2 ⟨k, by omega, hb⟩))
    · have h1' : k < xs.length + news.length := by simpa using h1
      have hk2 : k - xs.length < news.length := by omega
      rw [List.getElem_append_right (show xs.length ≤ k by omega), List.getElem_append_right (show kb.length ≤ k by omega), List.getElem_append_right (show cells.length ≤ k by omega)]
      simp only [b2, b3]
      have := n4 (k - xs.length) hk2 (by omega) (by omega)
      have hmod : (k - xs.length) % szOf T e = k % szOf T e := by
        rw [← hmn]
        have e1 : k = (k - n * szOf T e) + szOf T e * n := by rw [Nat.mul_comm (szOf T e) n]; omega
        conv => rhs; rw [e1, Nat.add_mul_mod_self_left]
      rw [hmod] at this
      exact this.frame hS (fun _ h => h) fun b hb => hK b (.inr (mem_blksL.2 ⟨k - xs.length, by omega, hb⟩))
  have hbl : ∀ b, b ∈ blksL (kb ++ kn) → b ∈ blksL kb ∨ b ∈ blksL kn := fun b hb => by rw [blksL_append] at hb; exact List.mem_append.1 hb
  obtain ⟨pv, p1, p2, p3⟩ : ∃ pv : Pv, pv.v = z ∧ RCRep T w' S pv (.tree (.sl e ks) (.sl (n + m) (cells ++ cs)) none) ∧ ∀ b, b ∈ pv.blks → z.ownBlock = some b ∨ b ∈ blksL kb ∨ b ∈ blksL kn := by
    rcases r2.2 with ⟨hz1, hz2⟩ | ⟨g, cap, cur, hz1, _⟩
    · subst hz1
      have hl := r2.1
      rw [hz2, Nat.zero_mul] at hl
      have hcl : cells ++ cs = [] := List.eq_nil_of_length_eq_zero (by rw [List.length_append, b2, n2, ← List.length_append]; exact hl)
      rw [hz2, hcl]
      exact ⟨.mk nilSl none [], rfl, ⟨.nil (.inr rfl), by simp [Pv.blks, blksL], ⟨_, _, rfl⟩, fun p hp => by cases hp⟩, fun b hb => by simp [Pv.blks, blksL] at hb⟩
    · subst hz1
      refine ⟨_, rfl, node_of r2 (by rw [List.length_append, List.length_append]; omega) (by rw [List.length_append, List.length_append]; omega) hkids (fun hg => ?_) (by rw [blksL_append]; exact hnd), fun b hb => ?_⟩
      · have hg2 := hbl g hg
        rcases r4 with r4 | r4
        · have := hWv g (by rw [← r4]; rfl)
          rcases hg2 with hg2 | hg2
          · exact this.2.1 hg2
          · exact this.2.2 hg2
        · have : g = w.heap.size := by simpa [Value.ownBlock] using r4
          have := (hW g (hWk g hg2)).2.1
          omega
      · rcases mem_node.1 hb with rfl | hb
        · exact .inl rfl
        · exact .inr (hbl b hb)
  have := rc_fin h hsp (w' := w') (W := W) (pv := pv) hcg (fun b _ hb => ⟨(hW b hb).1, (hW b hb).2.2.1, (hW b hb).2.2.2⟩) p2 (fun g hg => by
    rcases p3 g hg with hg | hg
    · refine ⟨(r2.lt g hg).2, ?_⟩
      rcases r4 with r4 | r4
      · exact .inr (hWv g (r4 ▸ hg)).1
      · rw [hg] at r4; cases r4; exact .inl (Nat.le_refl _)
    · exact ⟨Nat.lt_of_lt_of_le (hW g (hWk g hg)).2.1 hcg.size, .inr (hWk g hg)⟩) hdst
  rw [p1] at this
  exact this

theorem plus0 (n : Nat) : plus (std P T) 0 n = n := by rw [plus_std]; omega
theorem treeApp_sound (hT : TOk P T) (h : Rel T w0 S0 F st a w S bx ph) (hsp : st.r.getD st.s.length .none = .none) {t ty : TypeId} {U V : V} {u v : Value} {vf : Nat → A.V} {st1 : St} {obl : List Prop}
    (hv : VRep T w S st.r bx ph v V) (hu : VRep T w S st.r bx ph u U) (hp : treeApp T (std P T) st t V U = some (vf, st1, obl)) (ho : ∀ p ∈ obl, p) {dst : Option Nat} (hdst : ∀ k, dst = some k → k < st.s.length) :
    ∃ z w', (Builtin.append_ #[t, t] ty #[v, u]).run P w = .ok z w' ∧ Rels T w0 S0 F (fin st1 dst vf) (a.put dst z) w' ∧ ((∃ c, V = .one (.c c)) → Old w w') := by
  unfold treeApp at hp
  split at hp
  · rename_i e te hel
    obtain ⟨hd, hte, hsz⟩ := elemOf_desc hT hel
    split at hp
    · cases hp
    · rename_i hnz
      have hz : te.size ≠ 0 := fun h => hnz (.inl h)
      have hby : te.bytes ≠ 0 := fun h => hnz (.inr h)
      split at hp
      · split at hp
        · rename_i t1 o1 x1 p1
          split at hp
          · rename_i sh c e1 ks1 n cells st2 m cs obl2 hb hn
            split at hp
            · rename_i hc
              obtain ⟨rfl, hst⟩ := hc
              cases hp
              have hbytes : (n + m) * te.bytes ≤ 140737488355328 := by
                have : plus (std P T) n m * te.bytes ≤ 140737488355328 := ho _ (List.mem_cons_self ..)
                rwa [plus_std] at this
              obtain ⟨z, w', r1, r2⟩ := kidApp_sound (ty := ty) (e1 := e) hT h hsp hd hte hz hby hv hu hb hn (fun p hp => ho p (List.mem_cons_of_mem _ hp)) hst hbytes hdst
              refine ⟨z, w', r1, ?_, fun ⟨c, hc⟩ => by cases hc⟩
              rw [plus_std]
              exact r2
            · cases hp
          · cases hp
        · cases hp
      · split at hp
        · rename_i t2 o2
          split at hp
          · rename_i e2 ks2 m cs htree
            split at hp
            · rename_i hc
              obtain ⟨rfl, hks, hne2⟩ := hc
              have hks' := sameL_eq _ _ hks
              subst hks'
              have hc2 := treeAt_eq htree
              obtain ⟨sh', c', hh', q', m1, m2, _, _, _, rfl⟩ := hu
              rw [hc2] at m1; cases m1
              rw [Pv.get_nil] at m2; cases m2
              obtain ⟨t1', t2', _, _⟩ := h.heap.cell hc2
              obtain ⟨_, news, n1, n2, n3, n5, n6, n7, n8⟩ := tree_row t1'
              have hnown : ∀ b, b ∈ (ph t2 o2).blks → owns st.r bx ph t2 (some o2) b := fun b hb => own_blk hc2 hb
              split at hp
              · -- behind nil
                cases hp
                have hbytes : (0 + m) * te.bytes ≤ 140737488355328 := by
                  rw [Nat.zero_add]; exact ho _ (List.mem_cons_self ..)
                have hl : (kill (ofCell t2 o2) st.s).length = st.s.length := by simp [kill]
                obtain ⟨z, w', r1, r2, r3⟩ := treeApp_core (ty := ty) (ph1 := ph) (cells := []) (xs := []) (kb := []) (W := fun b => b ∈ (ph t2 o2).blks) hT (dead_sound h t2 o2) (by
                    show (setCellR st.r t2 o2 .dead).getD (kill (ofCell t2 o2) st.s).length .none = .none
                    rw [hl, getD_setCell, if_neg hne2]; exact hsp) hd hte hz hby hbytes (World.ownsRow_nil _ _ _ _) rfl rfl (fun k h1 => absurd h1 (by simp)) n1 n2 n3 n8
                  (fun b hb => ⟨(h.heap.free _ _ _ (hnown b hb)).1, (h.heap.free _ _ _ (hnown b hb)).2, fun u κ ho' => by
                    obtain ⟨h1, h2⟩ := owns_dead ho'
                    exact h2 (h.heap.inj _ _ _ _ b h1 (hnown b hb)), h.mine _ _ _ (hnown b hb)⟩)
                  (fun g hg => by cases hg) (fun b hb => by
                    rcases hb with hb | hb
                    · cases hb
                    · exact n6 b hb) (by simpa [blksL] using n7 t2') (dst := dst) (fun k hk => by show k < (kill (ofCell t2 o2) st.s).length; rw [hl]; exact hdst k hk)
                have hv' := crep_nil hv
                subst hv'
                refine ⟨z, w', r1, ?_, fun _ => r3 rfl⟩
                simp only [Nat.zero_add, List.nil_append, gn, gc] at r2
                rw [hl] at r2
                exact r2
              · rename_i t1 o1 p1
                split at hp
                · cases hp
                · rename_i hdiff
                  split at hp
                  · rename_i sh c e1 ks1 n cells st2 hb
                    split at hp
                    · rename_i hc
                      obtain ⟨rfl, hks1⟩ := hc
                      have hks1' := sameL_eq _ _ hks1
                      subst hks1'
                      cases hp
                      obtain ⟨hne, hc1, q, ph1, a1, rfl, rfl, a4, a5, a6, a7, a8, a9, a10⟩ := treeBase_sound h hsp hv hb
                      obtain ⟨hvv, xs, b1, b2, b3, b4, b5, b6, b7⟩ := tree_row a1
                      have hbytes : (gn (atC c p1) + m) * te.bytes ≤ 140737488355328 := by
                        have : plus (std P T) (gn (atC c p1)) m * te.bytes ≤ 140737488355328 := ho _ (List.mem_cons_self ..)
                        rwa [plus_std] at this
                      have hl : (kill (ofCell t2 o2) st2.s).length = st2.s.length := by simp [kill]
                      have hcross : ∀ b, b ∈ q.blks → b ∈ (ph t2 o2).blks → False := fun b h1 h2 => by
                        obtain ⟨e1, e2⟩ := h.heap.inj _ _ _ _ b (a5 b h1) (hnown b h2)
                        exact hdiff ⟨e1, by simpa using e2⟩
                      obtain ⟨z, w', r1, r2, r3⟩ := treeApp_core (ty := ty) (ph1 := ph1) (W := fun b => b ∈ q.blks ∨ b ∈ (ph t2 o2).blks) hT (dead_sound a6 t2 o2) (by
                          show (setCellR st2.r t2 o2 .dead).getD (kill (ofCell t2 o2) st2.s).length .none = .none
                          rw [hl, a7, getD_setCell, if_neg hne2]; exact a8) hd hte hz hby hbytes b1 b2 b3 b7 n1 n2 n3 n8
                        (fun b hb => by
                          have hown : ∃ u κ, owns st.r bx ph u κ b := by
                            rcases hb with hb | hb
                            · exact ⟨_, _, a5 b hb⟩
                            · exact ⟨_, _, hnown b hb⟩
                          obtain ⟨u0, κ0, hu0⟩ := hown
                          refine ⟨(h.heap.free _ _ _ hu0).1, (h.heap.free _ _ _ hu0).2, fun u κ ho' => ?_, h.mine _ _ _ hu0⟩
                          obtain ⟨h1, h2⟩ := owns_dead ho'
                          obtain ⟨h3, h4⟩ := a9 u κ b h1
                          rcases hb with hb | hb
                          · exact h4 hb
                          · exact h2 (h.heap.inj _ _ _ _ b h3 (hnown b hb)))
                        (fun g hg => ⟨.inl (b4 g hg).1, (b4 g hg).2 a4, fun hg2 => hcross g (b4 g hg).1 (n6 g hg2)⟩) (fun b hb => by
                          rcases hb with hb | hb
                          · exact .inl (b5 b hb)
                          · exact .inr (n6 b hb)) (List.nodup_append.2 ⟨b6 a4, n7 t2', fun b hb b' hb' e => by subst e; exact hcross b (b5 b hb) (n6 b hb')⟩) (dst := dst) (fun k hk => by show k < (kill (ofCell t2 o2) st2.s).length; rw [hl, a7]; exact hdst k hk)
                      refine ⟨z, w', r1, ?_, fun ⟨c, hc⟩ => by cases hc⟩
                      rw [plus_std]
                      have e9 : ({ s := kill (ofCell t2 o2) st2.s, r := setCellR st2.r t2 o2 .dead } : St).s.length = st.s.length := by show (kill (ofCell t2 o2) st2.s).length = _; rw [hl, a7]
                      rw [e9] at r2
                      exact r2
                    · cases hp
                  · cases hp
              · cases hp
            · cases hp
          · cases hp
        · cases hp
  · cases hp
end Go.Proofs.Ytdmdcmhgfgookaa.A
