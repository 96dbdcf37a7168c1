/- The ghost machine, part 22d: calls that make a box. -/
import Derived.Test.YtdmdcmhgfgookaaAm22c
set_option linter.unusedSimpArgs false
set_option linter.unusedVariables false
set_option maxRecDepth 100000
set_option maxHeartbeats 4000000
namespace Go.Proofs.Ytdmdcmhgfgookaa.A
open Go Go.RowKit
variable {P : Program} {T : TT} {w w' w0 : World} {S S0 : Nat → Prop} {F : Fr} {bx : Nat → Nat} {ph : Nat → Nat → Pv} {a : Act} {st st' : St}

/-- the loose root of the moment is a box that is there already -/
theorem looseBox_sound (h : Rel T w0 S0 F st a w S bx ph) {row : List RC} (hrow : st.r.getD st.s.length .none = .loose row) {g : Nat} {arr : Array Value} {e : TypeId} (hg : w.heap[g]? = some (.cells arr e (0, 0)))
    (hcs : arr.size = row.length) (hv : ∀ o, o < row.length → arr[o]? = some (ph st.s.length o).v) (hS : ¬ S g) (hno : ∀ t κ, ¬ owns st.r bx ph t κ g) (hm : w0.heap.size ≤ g ∨ F g) (hme : row.any RC.isMe = false) :
    Rel T w0 S0 F { st with r := st.r.set st.s.length (.box row) } a w S (fun t => if t = st.s.length then g else bx t) ph ∧ (st.r.set st.s.length (.box row)).getD st.s.length .none = .box row := by
  have hN : st.s.length < st.r.length := by have := h.rsize.1; omega
  have hlt : g < w.heap.size := lt_of_block hg
  have hg2 : ∀ u, (st.r.set st.s.length (.box row)).getD u .none = if u = st.s.length then .box row else st.r.getD u .none := fun u => by
    rw [getD_set]
    by_cases e1 : u = st.s.length
    · subst e1; simp [hN]
    · rw [if_neg (fun hh => e1 hh.1.symm), if_neg e1]
  have hown : ∀ t κ b, owns (st.r.set st.s.length (.box row)) (fun t => if t = st.s.length then g else bx t) ph t κ b → (t = st.s.length ∧ κ = none ∧ b = g) ∨ owns st.r bx ph t κ b := fun t κ b hb' => by
    by_cases e1 : t = st.s.length
    · subst e1
      cases κ with
      | none =>
        obtain ⟨_, _, h2⟩ := owns_box hb'
        exact .inl ⟨rfl, rfl, by simpa using h2⟩
      | some o =>
        obtain ⟨rc, h1, h2⟩ := owns_cell hb'
        rw [hg2, if_pos rfl] at h1
        right
        exact own_blk (rc := rc) (by rw [hrow]; exact h1) h2
    · right
      unfold owns at hb' ⊢
      rw [hg2, if_neg e1] at hb'
      simp only [if_neg e1] at hb'
      exact hb'
  refine ⟨⟨h.size, ⟨by simp only [List.length_set]; exact h.rsize.1, fun t ht => by have h9 : st.s.length < t := ht; rw [if_neg (by omega)]; exact h.rsize.2 t ht⟩, h.defers, ⟨fun u => ?_, fun t κ t' κ' b h1 h2 => ?_, fun t κ b h1 => ?_, h.heap.low⟩, fun t κ b h1 => ?_, fun i hi => (h.slot i hi).mono fun v x hx => ?_, h.keep, h.new, h.chg⟩, by rw [hg2, if_pos rfl]⟩
  · rw [hg2]
    by_cases e1 : u = st.s.length
    · subst e1
      have e0 : (if st.s.length = st.s.length then Root.box row else st.r.getD st.s.length .none) = .box row := if_pos rfl
      rw [e0]
      simp only [if_true]
      refine ⟨⟨arr, e, hg, hcs, hv⟩, fun o ho => ?_, fun o f ho => (noMe_get hme ho).elim⟩
      refine h.heap.cell (t := st.s.length) (o := o) ?_
      rw [hrow]; exact List.getElem?_eq_getElem ho
    · rw [if_neg e1]
      simp only [if_neg e1]
      exact h.heap.root u
  · rcases hown t κ b h1 with ⟨rfl, rfl, rfl⟩ | g1 <;> rcases hown t' κ' _ h2 with ⟨rfl, rfl, h3⟩ | g2
    · exact ⟨rfl, rfl⟩
    · exact absurd g2 (hno _ _)
    · exact absurd (by rw [← h3]; exact g1) (hno _ _)
    · exact h.heap.inj _ _ _ _ b g1 g2
  · rcases hown t κ b h1 with ⟨rfl, rfl, rfl⟩ | h1
    · exact ⟨hS, hlt⟩
    · exact h.heap.free t κ b h1
  · rcases hown t κ b h1 with ⟨rfl, rfl, rfl⟩ | h1
    · exact hm
    · exact h.mine t κ b h1
  · have hN0 : ∀ rw', st.r.getD st.s.length .none ≠ .box rw' := fun rw' => by rw [hrow]; exact fun hh => by cases hh
    refine hx.congr (fun t o rc hc ho hv' => ?_) (fun t o he row' hv' hp => ?_) (fun f caps he t ht row' hv' => ?_)
    · refine ⟨?_, rfl⟩
      show ((st.r.set st.s.length (.box row)).getD t .none).row[o]? = _
      rw [hg2]
      by_cases e1 : t = st.s.length
      · subst e1; rw [if_pos rfl]; rw [hrow] at hv'; exact hv'
      · rw [if_neg e1]; exact hv'
    · have n1 : t ≠ st.s.length := fun e1 => by subst e1; exact hN0 _ hv'
      exact ⟨row', by show (st.r.set st.s.length (.box row)).getD t .none = _; rw [hg2, if_neg n1]; exact hv', hp, by simp [n1]⟩
    · have n1 : t ≠ st.s.length := fun e1 => by subst e1; exact hN0 _ hv'
      exact ⟨row', by show (st.r.set st.s.length (.box row)).getD t .none = _; rw [hg2, if_neg n1]; exact hv', rfl, by simp [n1]⟩

theorem newCall_sound (h : Rel T w0 S0 F st a w S bx ph) (hsp : st.r.getD st.s.length .none = .none) {f : FuncId} {vs : List Value} {args : List V} {row : List RC} {vf : Nat → V} {st1 : St} {obl : List Prop}
    (hl : vs.length = args.length) (hv : ∀ k (h1 : k < args.length) (h2 : k < vs.length), VRep T w S st.r bx ph vs[k] args[k])
    (hp : newCall T (std P T) st f args row = some (vf, st1, obl)) (ho : ∀ p ∈ obl, p) {dst : Option Nat} (hdst : ∀ k, dst = some k → k < st.s.length) :
    Enters P f ∧ Calls P f vs.toArray w fun e w' => ∃ z, e = .returned z ∧ Rels T w0 S0 F (fin st1 dst vf) (a.put dst z) w' ∧ Old w w' := by
  unfold newCall at hp
  split at hp
  · rename_i hall
    simp only [Bool.and_eq_true, Bool.not_eq_true'] at hall
    obtain ⟨hall, hme⟩ := hall
    split at hp
    · rename_i as has
      simp only [Option.some.injEq, Prod.mk.injEq] at hp
      obtain ⟨rfl, rfl, rfl⟩ := hp
      obtain ⟨hen, hpc⟩ : Enters P f ∧ PCN P T f as row := ho _ (List.mem_cons_self ..)
      refine ⟨hen, ?_⟩
      have has2 := optAll_some _ _ has
      have hal : as.length = args.length := by have := congrArg List.length has2; simpa using this.symm
      have hargs : ∀ k (h1 : k < as.length) (h2 : k < args.length), argOf T (std P T) st.r [] args[k] = some as[k] := fun k h1 h2 => by
        have := congrArg (fun l => l[k]?) has2
        simpa only [List.getElem?_map, List.getElem?_eq_getElem h1, List.getElem?_eq_getElem h2, Option.map_some, Option.some.injEq] using this
      have hnp : ∀ k (h2 : k < args.length), ptrOf args[k] = none ∧ capsOf args[k] = [] := fun k h2 => by
        have := List.all_eq_true.1 hall args[k] (List.getElem_mem h2)
        simpa using this
      obtain ⟨S', hf, hcr⟩ := freezeAll_sound (P := P) (args.flatMap cellsOfV) h
      generalize hstf : (args.flatMap cellsOfV).foldl (freezeX T (std P T)) st = stf at hf
      have hR : ∀ k, (as.map Arg.asRoot).getD k .none = match (none : Option Nat) with | some t => stf.r.getD t .none | none => .none := fun k => by
        rw [List.getD_eq_getElem?_getD, List.getElem?_map]
        by_cases h1 : k < args.length
        · rw [List.getElem?_eq_getElem (show k < as.length by omega)]
          have h2 := (arg_root (hargs k (by omega) h1)).2
          simp only [Option.map_some, Option.getD_some]
          rw [h2, (hnp k h1).1]
        · rw [List.getElem?_eq_none (by omega)]; rfl
      obtain ⟨hsub, hsown⟩ := hf.rel.heap.sub (τ := fun _ => none) (R := as.map Arg.asRoot) hR (fun k k' t a1 _ => by cases a1)
      have hreal : reals as = vs.length := by
        unfold reals
        rw [List.filter_eq_self.2 (fun x hx => ?_), hal, hl]
        obtain ⟨k, hk, rfl⟩ := List.mem_iff_getElem.1 hx
        exact (arg_root (hargs k hk (by omega))).1
      have hrep : ∀ i (h1 : i < as.length) (h2 : i < vs.length), ArgRep w S' (fun _ => bx 0) (bx 0) vs[i] as[i] := fun i h1 h2 => by
        have h3 : i < args.length := by omega
        refine arg_sound (ts := []) (bxs := fun _ => bx 0) (k := i) (hv i h3 h2) (hargs i (by omega) h3) (fun j t hj => by simp at hj) (fun t ht => ?_) (fun t ht => ?_) (fun y hy hh u c hu hc => ?_)
        · rw [(hnp i h3).2] at ht; cases ht
        · rw [(hnp i h3).1] at ht; cases ht
        · exact hcr y (List.mem_flatMap.2 ⟨_, List.getElem_mem h3, hy⟩) u c hu hc
      refine (hpc w S' (fun _ => bx 0) (fun _ => ph 0) vs hsub hreal.symm hrep).mono fun e w' ⟨b, arr, t, S3, bx', ph', he, hb, hge, hnS, hnoo, hpos, hg⟩ => ⟨_, he, ?_⟩
      have hnone : ∀ k κ b, ¬ owns (as.map Arg.asRoot) (fun _ => bx 0) (fun _ => ph 0) k κ b := fun k κ b hb' => by
        obtain ⟨t, h1, _⟩ := hsown k κ b hb'
        cases h1
      obtain ⟨S4, ph2, h5, h6, h7, h8, h9⟩ := call_merge (ts := []) (R := as.map Arg.asRoot) (us := []) (ret := ⟨false, [(true, row)]⟩) (upd := []) hf.rel (by rw [hf.len]; exact hf.spare _ hsp) rfl (by simp) rfl (fun k => rfl)
        (by simpa using hg)
        (fun k κ b hb' => absurd hb' (by simpa using hnone k κ b))
        (fun o ho => by
          have h3 := hg.heap.root 0 o ho
          refine h3.frame (fun _ _ => rfl) (fun b hb' => ?_) (fun _ _ => rfl)
          rcases hg.new b hb' with h1 | h1 | ⟨k, κ, h1⟩
          · exact .inl h1
          · exact .inr ⟨hb', .inl h1⟩
          · exact absurd h1 (hnone _ _ _))
        (fun k row hk => by simp at hk)
      have hrow1 : (⟨false, [(true, row)]⟩ : RV).parts.flatMap (·.2) = row := by simp
      rw [hrow1] at h5 h6 h9
      obtain ⟨us, q1, q2, q3⟩ : ∃ us : Array Value, Value.agg arr = .agg us ∧ us.size = row.length ∧ ∀ k (h : k < us.size), us[k] = (ph' 0 (0 + k)).v := by
        have := hg.val
        unfold RetRep at this
        simp only [Bool.false_eq_true, if_false, PartVals] at this
        simpa [PartVal] using this.1
      cases q1
      have hslen : (kill (lostX []) stf.s).length = st.s.length := by simp [kill, hf.len]
      have hset : (setRoots stf.r [] []) = stf.r := rfl
      rw [hset] at h5 h6 h9
      obtain ⟨p1, p2⟩ := looseBox_sound (g := b) (arr := arr) (e := t) (row := row) h5 (by
          show (stf.r.set stf.s.length (.loose row)).getD (kill (lostX []) stf.s).length .none = _
          rw [hslen, ← hf.len]; exact h6) hb q2 (fun o ho => by
          have ho' : o < arr.size := by omega
          rw [Array.getElem?_eq_getElem ho', q3 o ho', Nat.zero_add]
          congr 1
          show _ = (ph2 (kill (lostX []) stf.s).length o).v
          rw [hslen, ← hf.len, h7 o]) (fun hs => by
          rcases h8 b hs with h1 | h1
          · have := hf.rel.heap.low.1 b h1; omega
          · exact hnS h1) (fun u κ hu => by
          rcases h9 u κ b hu with h1 | ⟨k, κ', h1⟩
          · omega
          · exact hnoo k κ' h1) (.inl (Nat.le_trans hf.rel.chg.size hge)) hme
      refine ⟨?_, fun b' hb' => hg.chg.block b' hb' fun ⟨k, κ, hk⟩ => hnone _ _ _ hk⟩
      have p1' : Rel T w0 S0 F { s := kill (lostX []) stf.s, r := stf.r.set st.s.length (.box row) } a w' S4 (fun t => if t = st.s.length then b else bx t) ph2 := by
        have := p1
        simp only [hslen, hf.len, List.set_set] at this
        exact this
      refine fin_sound p1' (fun k hk => by show k < (kill (lostX []) stf.s).length; rw [hslen]; exact hdst k hk) (fun k bx2 ph3 hk e1 e2 e3 _ => ?_)
      have hslen2 : ({ s := kill (lostX []) stf.s, r := stf.r.set st.s.length (.box row) } : St).s.length = st.s.length := hslen
      rw [hslen2] at e2 e3
      refine ⟨row, ?_, hpos, ?_⟩
      · rw [e3]
        have := p2
        show (stf.r.set st.s.length (.box row)).getD st.s.length .none = _
        rw [getD_set, if_pos ⟨rfl, by have := hf.rel.rsize.1; rw [hf.len] at this; omega⟩]
      · rw [e2, if_pos rfl]
    · cases hp
  · cases hp
theorem anyCall_sound (h : Rel T w0 S0 F st a w S bx ph) (hsp : st.r.getD st.s.length .none = .none) {f : FuncId} {vs : List Value} {args : List V} {cr : RV × List Root} {vf : Nat → V} {st1 : St} {obl : List Prop}
    (hl : vs.length = args.length) (hv : ∀ k (h1 : k < args.length) (h2 : k < vs.length), VRep T w S st.r bx ph vs[k] args[k])
    (hp : anyCall T (std P T) st f args cr = some (vf, st1, obl)) (ho : ∀ p ∈ obl, p) {dst : Option Nat} (hdst : ∀ k, dst = some k → k < st.s.length) :
    Enters P f ∧ Calls P f vs.toArray w fun e w' => ∃ z, e = .returned z ∧ Rels T w0 S0 F (fin st1 dst vf) (a.put dst z) w' ∧ ((tsOf args).all Option.isNone = true → Old w w') := by
  unfold anyCall at hp
  split at hp
  · obtain ⟨r1, r2⟩ := newCall_sound h hsp hl hv hp ho hdst
    exact ⟨r1, r2.mono fun e w' ⟨z, h1, h2, h3⟩ => ⟨z, h1, h2, fun _ => h3⟩⟩
  · exact call_sound h hsp hl hv hp ho hdst
theorem setC_nil (cells : List C) (k : Nat) : setC cells k [] = cells := by unfold setC; simp
theorem ext0 (cs : List C) (k : Nat) : extC cs 0 k = cs.take k := by unfold extC; simp
theorem imin_nat (a b : Nat) : (if (b : Int) < (a : Int) then (b : Int) else (a : Int)).toNat = Nat.min b a := by
  show _ = min b a
  split <;> omega
/-- a slice of one's own is overwritten -/
theorem copy_core (hT : TOk P T) (h : Rel T w0 S0 F st a w S bx ph) {t e : TypeId} {te : TI} (hel : elemOf T t = some (e, te)) (hsz : te.size = 1) {t1 o1 lo len n : Nat} {cells : List C} {u y : Value}
    (hc : (st.r.getD t1 .none).row[o1]? = some (.own e n cells)) (hle : lo + len ≤ n) (hu : ∃ dp dc, u = .slice dp len dc) (hpos : 0 < len → ∃ g cap, (ph t1 o1).v = .slice (some ⟨g, 0, none⟩) n cap ∧ ∃ dc, u = .slice (some ⟨g, lo, none⟩) len dc)
    {m : Nat} {cs : List C} {news : List Value} (n1 : news.length = m) (n2 : news.length = cs.length) (n3 : ∀ k (h : k < cs.length) (h2 : k < news.length), CRep w S news[k] cs[k]) (n4 : (m = 0 ∧ ∃ aa c, y = .slice aa 0 c) ∨ Src w y m news)
    {dst : Option Nat} (hsp : st.r.getD st.s.length .none = .none) (hdst : ∀ k, dst = some k → k < st.s.length) (ty : TypeId) :
    ∃ z w', (Builtin.copy_ #[t, t] ty #[u, y]).run P w = .ok z w' ∧ Rels T w0 S0 F (fin { st with r := setCellR st.r t1 o1 (.own e n (setC cells lo (extC cs 0 (Nat.min m len)))) } dst (fun _ => .one (.c (.val (.int .i64 ((Nat.min m len : Nat) : Int)))))) (a.put dst z) w' := by
  obtain ⟨hut, hte, _⟩ := elemOf_desc hT hel
  have hszOf : szOf T e = 1 := by unfold szOf; rw [hte]; exact hsz
  obtain ⟨_, i, hi, his, _⟩ := hT _ _ hte
  have hsize : (P.info? e).map (·.size) = some 1 := by rw [hi]; simp [his, hsz]
  have hsrc0 : ∃ sp sc, y = .slice sp m sc := by
    rcases n4 with ⟨q0, aa, c, q⟩ | ⟨q, q0, _⟩ | ⟨ad, c, q, _⟩
    · subst q0; exact ⟨_, _, q⟩
    · subst q0; exact ⟨_, _, q⟩
    · exact ⟨_, _, q⟩
  by_cases hm0 : Nat.min m len = 0
  · obtain ⟨dp, dc, hd⟩ := hu
    obtain ⟨sp, sc, hs⟩ := hsrc0
    have e1 : setC cells lo (extC cs 0 (Nat.min m len)) = cells := by rw [hm0, ext0, List.take_zero, setC_nil]
    rw [e1]
    refine ⟨goInt 0, w, ?_, fin_sound (cell_reword h hc (rc' := .own e n cells) rfl (fun _ _ _ he => by cases he; exact ⟨_, rfl⟩) (fun _ _ he => by cases he) (fun _ _ _ he => by cases he) (h.heap.cell hc)) hdst (fun _ _ _ _ _ _ _ _ => ?_)⟩
    · rw [hd, hs]
      exact run_copy_none (P := P) w t t ty e dp sp len dc m sc hut hsize hm0
    · rw [hm0]; exact CRep.val (v := .int .i64 ((0 : Nat) : Int)) rfl
  · have hmin : Nat.min m len = min m len := rfl
    rw [hmin] at hm0 ⊢
    obtain ⟨g, cap, hd, dc, hud⟩ := hpos (by omega)
    obtain ⟨ys, y1, y2, y3⟩ := h.heap.cell hc
    rw [hd] at y1
    obtain ⟨y10, y11⟩ := y1
    rw [hszOf, Nat.mul_one] at y10
    rcases n4 with ⟨q0, _⟩ | ⟨_, q0, _⟩ | ⟨ad, c, hs, hcell⟩
    · omega
    · omega
    rcases y11 with ⟨hv, _⟩ | ⟨g', cap', cur, hv, _, hheap, hn, hmx, hs2, htk⟩
    · cases hv
    · cases hv
      rw [hszOf, Nat.mul_one] at hs2 htk
      generalize hk : min m len = k at *
      have hzl : (news.take k).length = k := by rw [List.length_take]; omega
      have hfit2 : lo + k ≤ cur.toList.length := by rw [Array.length_toList]; omega
      have hrun := run_copy_row (P := P) w t t ty e g lo len dc ad m c cur e (news.take k) hut hsize hheap (by rw [hzl]; exact hk.symm) (fun j v hj => hcell j v (by
        rw [List.getElem?_take] at hj
        split at hj
        · exact hj
        · cases hj)) (by rw [hzl]; omega) (fun v hv => by
        obtain ⟨k2, hk2, rfl⟩ := List.mem_iff_getElem.1 (List.mem_of_mem_take hv)
        exact crep_one (n3 k2 (by omega) hk2))
      rw [hzl] at hrun
      have hcg := chg_setRow (w := w) g (cur.toList.take lo ++ news.take k ++ cur.toList.drop (lo + k)).toArray
      have hob : owns st.r bx ph t1 (some o1) g := own_blk hc (by show (ph t1 o1).v.ownBlock = some g; rw [hd]; rfl)
      have hheap' := setRow_heap w g cur (cur.toList.take lo ++ news.take k ++ cur.toList.drop (lo + k)).toArray e (0, 0) hheap
      have hcl : (cs.take k).length = k := by rw [List.length_take]; omega
      have hset : setC cells lo (extC cs 0 k) = cells.take lo ++ cs.take k ++ cells.drop (lo + k) := by rw [ext0]; unfold setC; rw [hcl]
      have hys : lo + k ≤ ys.length := by omega
      have hcells : lo + k ≤ cells.length := by omega
      refine ⟨_, _, by rw [hud, hs]; exact hrun, fin_sound (cell_write h hc (rc' := .own e n (setC cells lo (extC cs 0 k))) rfl (fun _ _ _ he => by cases he; exact ⟨_, rfl⟩) (fun _ _ he => by cases he) (fun _ _ _ he => by cases he) hob hcg ?_) hdst (fun _ _ _ _ _ _ _ _ => CRep.val (v := .int .i64 (k : Int)) rfl)⟩
      rw [hset]
      refine ⟨ys.take lo ++ news.take k ++ ys.drop (lo + k), ⟨?_, .inr ⟨g, cap, _, hd, Nat.zero_le _, hheap', hn, hmx, ?_, ?_⟩⟩, ?_, fun j q1 q2 => ?_⟩
      · rw [hszOf, Nat.mul_one, spl_length hzl hys, y10]
      · rw [hszOf, Nat.mul_one, List.size_toArray, spl_length hzl hfit2, Array.length_toList, hs2]
      · rw [hszOf, Nat.mul_one]
        apply List.ext_getElem?
        intro j
        rw [List.getElem?_take, List.toList_toArray, spl_get hzl hfit2, spl_get hzl hys, ← htk]
        by_cases hj : j < n
        · rw [if_pos hj, show (List.take n cur.toList)[j]? = cur.toList[j]? from by rw [List.getElem?_take, if_pos hj]]
        · rw [if_neg hj, if_neg (by omega), show (List.take n cur.toList)[j]? = none from by rw [List.getElem?_take, if_neg hj]]
      · rw [spl_length hcl hcells, spl_length hzl hys, y2]
      · have fr : ∀ {v : Value} {c : C}, CRep w S v c → CRep (w.setRow g (cur.toList.take lo ++ news.take k ++ cur.toList.drop (lo + k)).toArray) S v c := fun hc => hc.frame (h.heap.write hob hcg).1 fun _ h => h
        have q1' : j < cells.length := by rw [spl_length hcl hcells] at q1; exact q1
        have e1 := spl_get hzl hys j
        have e2 := spl_get hcl hcells j
        by_cases h1 : lo ≤ j ∧ j < lo + k
        · rw [if_pos h1, List.getElem?_eq_getElem (show j - lo < (news.take k).length by omega)] at e1
          rw [if_pos h1, List.getElem?_eq_getElem (show j - lo < (cs.take k).length by omega)] at e2
          rw [get_of q2 e1, get_of q1 e2, List.getElem_take, List.getElem_take]
          exact fr (n3 (j - lo) (by omega) (by omega))
        · rw [if_neg h1, List.getElem?_eq_getElem (show j < ys.length by omega)] at e1
          rw [if_neg h1, List.getElem?_eq_getElem q1'] at e2
          rw [get_of q2 e1, get_of q1 e2]
          exact fr (y3 j q1' (by omega))
theorem copy_sound (hT : TOk P T) (h : Rel T w0 S0 F st a w S bx ph) {t : TypeId} {u y : Value} {D N : V} {vf : Nat → V} {st1 : St} {obl : List Prop} (hu : VRep T w S st.r bx ph u D) (hy : VRep T w S st.r bx ph y N)
    (hp : copyOp T (std P T) st t D N = some (vf, st1, obl)) (ho : ∀ p ∈ obl, p) {dst : Option Nat} (hsp : st.r.getD st.s.length .none = .none) (hdst : ∀ k, dst = some k → k < st.s.length) (ty : TypeId) :
    ∃ z w', (Builtin.copy_ #[t, t] ty #[u, y]).run P w = .ok z w' ∧ Rels T w0 S0 F (fin st1 dst vf) (a.put dst z) w' := by
  unfold copyOp at hp
  split at hp
  · rename_i e te hel
    split at hp
    · cases hp
    · rename_i hbad
      have hsz : te.size = 1 := by simpa using hbad
      obtain ⟨hut, hte, _⟩ := elemOf_desc hT hel
      have hszOf : szOf T e = 1 := by unfold szOf; rw [hte]; exact hsz
      split at hp
      · rename_i t1 o1 lo len n cells hcd
        split at hp
        · rename_i m cs obl' hn
          simp only [Option.some.injEq, Prod.mk.injEq] at hp
          obtain ⟨rfl, rfl, rfl⟩ := hp
          obtain ⟨news, n1, n2, n3, n4⟩ := news_sound h.heap hy (by rw [hszOf]; exact hn) ho (by omega)
          rw [hszOf, Nat.mul_one] at n1
          have key := fun (hc : (st.r.getD t1 .none).row[o1]? = some (.own e n cells)) hle hu hpos => copy_core (P := P) hT h hel hsz (t1 := t1) (o1 := o1) (lo := lo) (len := len) (u := u) hc hle hu hpos n1 n2 n3 n4 hsp hdst ty
          have hk : (std P T).toNat ((std P T).imin ((std P T).ofNat len) ((std P T).ofNat m)) = Nat.min m len := imin_nat len m
          have hk2 : (std P T).imin ((std P T).ofNat len) ((std P T).ofNat m) = ((Nat.min m len : Nat) : Int) := by
            show (if (m : Int) < (len : Int) then (m : Int) else (len : Int)) = ((min m len : Nat) : Int)
            split <;> omega
          rw [hk, hk2]
          unfold copyDst at hcd
          split at hcd
          · rename_i t' o'
            split at hcd
            · rename_i e' n' cells' hown
              split at hcd
              · rename_i he
                subst he
                simp only [Option.some.injEq, Prod.mk.injEq] at hcd
                obtain ⟨rfl, rfl, rfl, rfl, rfl, rfl⟩ := hcd
                have hc := ownAt_eq hown
                obtain ⟨_, _, _, _, rfl⟩ := hu
                rcases own_form (h.heap.cell hc) with ⟨q, q0, _⟩ | ⟨g, cap, q, _⟩
                · subst q0
                  exact key hc (by omega) ⟨_, _, q⟩ (fun h0 => absurd h0 (by omega))
                · exact key hc (by omega) ⟨_, _, q⟩ (fun _ => ⟨g, cap, q, cap, q⟩)
              · cases hcd
            · cases hcd
          · rename_i t' o' lo' hi'
            split at hcd
            · rename_i e' n' cells' hown
              split at hcd
              · rename_i he
                subst he
                simp only [Option.some.injEq, Prod.mk.injEq] at hcd
                obtain ⟨rfl, rfl, rfl, hlen, rfl, rfl⟩ := hcd
                have hc := ownAt_eq hown
                obtain ⟨e2, n2', cells2, aa, cap, a', x1, x2, x3, x4, x5, x6, x7⟩ := hu
                rw [hc] at x1; cases x1
                have hl : len = hi' - lo' := by
                  rw [← hlen]
                  split
                  · omega
                  · rfl
                refine key hc (by omega) ⟨_, _, by rw [hl]; exact x5⟩ (fun h0 => ?_)
                obtain ⟨g, y1, y2⟩ := x7 (by omega)
                rw [hszOf, Nat.mul_one] at y2
                exact ⟨g, cap, by rw [x2, y1], _, by rw [x5, y2, hl]⟩
              · cases hcd
            · cases hcd
          · cases hcd
        · cases hp
      · cases hp
  · cases hp
end Go.Proofs.Ytdmdcmhgfgookaa.A
