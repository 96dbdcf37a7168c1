/- The ghost machine, part 16: make, append, bytes of a string, stores. -/
import Derived.Test.YtdmdcmhgfgookaaAm15
import Derived.Lib.AppendZeros
set_option linter.unusedSimpArgs false
set_option linter.unusedVariables false
set_option maxRecDepth 100000
set_option maxHeartbeats 4000000
namespace Go.Proofs.Ytdmdcmhgfgookaa.A
open Go Go.RowKit
variable {P : Program} {T : TT} {w w' w0 : World} {S S0 : Nat → Prop} {F : Fr} {bx : Nat → Nat} {ph : Nat → Nat → Pv} {a : Act} {st st' : St}

theorem crep_consts {v : Value} {xs : List X} (h : cellsOfV (constV v) = xs) (hne : xs ≠ []) : ∃ cs : List C, xs = cs.map .c ∧ v.cells.size = cs.length ∧ ∀ k (h : k < cs.length) (h2 : k < v.cells.size), CRep w S v.cells[k] cs[k] := by
  subst h
  unfold constV at *
  split at hne
  · rename_i cs
    split at hne
    · rename_i hall
      rw [if_pos hall]
      refine ⟨cs.toList.map constC, by simp [cellsOfV, Function.comp_def], by simp [Value.cells], fun k hk hk2 => ?_⟩
      have hk2' : k < cs.size := hk2
      have := List.all_eq_true.1 hall cs[k] (by simp)
      simp only [List.getElem_map, Array.getElem_toList, Value.cells]
      exact crep_const this
    · exact absurd rfl hne
  · rename_i hna
    split at hne
    · rename_i hok
      rw [if_pos hok]
      have hcells : v.cells = #[v] := by cases v <;> first | rfl | exact absurd rfl (hna _)
      refine ⟨[constC v], rfl, by rw [hcells]; rfl, fun k hk hk2 => ?_⟩
      have : k = 0 := by simpa using hk
      subst this
      simp only [hcells]
      exact crep_const hok
    · exact absurd rfl hne

theorem repC_length (n : Nat) (zs : List C) : (repC n zs).length = n * zs.length := by
  unfold repC
  induction n with
  | zero => simp
  | succ n ih => rw [List.replicate_succ, List.flatten_cons, List.length_append, ih, Nat.succ_mul]; omega
theorem repC_get (n : Nat) (zs : List C) : ∀ k (h : k < (repC n zs).length), ∃ h2 : k % zs.length < zs.length, (repC n zs)[k] = zs[k % zs.length] := by
  induction n with
  | zero => intro k h; simp [repC] at h
  | succ n ih =>
    intro k h
    have hpos : 0 < zs.length := by
      rw [repC_length] at h
      rcases Nat.eq_zero_or_pos zs.length with h0 | h0
      · rw [h0] at h; simp at h
      · exact h0
    have e : repC (n + 1) zs = zs ++ repC n zs := by unfold repC; rw [List.replicate_succ, List.flatten_cons]
    refine ⟨Nat.mod_lt _ hpos, ?_⟩
    by_cases hk : k < zs.length
    · simp only [e, List.getElem_append_left hk, Nat.mod_eq_of_lt hk]
    · have hk2 : k - zs.length < (repC n zs).length := by rw [e, List.length_append] at h; omega
      obtain ⟨h3, h4⟩ := ih (k - zs.length) hk2
      simp only [e, List.getElem_append_right (Nat.le_of_not_lt hk), h4]
      congr 1
      exact (Nat.mod_eq_sub_mod (Nat.le_of_not_lt hk)).symm

theorem map_some_inj {α : Type} : ∀ l r : List α, l.map some = r.map some → l = r := by
  intro l
  induction l with
  | nil => intro r h; cases r with | nil => rfl | cons a r => cases h
  | cons a l ih =>
    intro r h
    cases r with
    | nil => cases h
    | cons b r =>
      simp only [List.map_cons, List.cons.injEq, Option.some.injEq] at h
      rw [h.1, ih r h.2]
theorem make_core (hT : TOk P T) (h : Rel T w0 S0 F st a w S bx ph) {t e : TypeId} {te : TI} {l c : Int} {kl kc : IntKind} {zs : List C}
    (hd : descOf T t = .slice e) (hte : T e = some te) (hzs : optAll ((cellsOfV (constV te.zero)).map (stab T (std P T) st.r)) = some zs) (hzl : zs.length = te.size) (hz : te.size ≠ 0) (hby : te.bytes ≠ 0)
    (h0 : 0 ≤ l) (h1 : l ≤ c) (h2 : c.toNat * te.bytes ≤ 140737488355328) :
    ∃ z w', (Instr.makeSlice t (.int kl l) (.int kc c)).run P w = .ok z w' ∧ RCRep T w' S (.of z) (.own e l.toNat (repC l.toNat zs)) ∧ Chg (fun _ => False) w w' ∧ (∀ b, z.ownBlock = some b → b < w'.heap.size ∧ w.heap.size ≤ b) ∧ Old w w' := by
  obtain ⟨_, ie, hie, his, hib, hiz, _⟩ := hT e te hte
  have ud := desc_of hT hd (by simp)
  have hszT : szOf T e = te.size := by simp [szOf, hte]
  have hzl2 := optAll_some _ _ hzs
  have hne : cellsOfV (constV te.zero) ≠ [] := fun h0 => by
    rw [h0] at hzl2
    have := congrArg List.length hzl2
    simp at this
    exact hz (by rw [← hzl, this])
  obtain ⟨cs, c1, c2, c3⟩ := crep_consts (w := w) (S := S) (v := te.zero) rfl hne
  have hcz : zs = cs := by
    rw [c1, List.map_map] at hzl2
    have : (stab T (std P T) st.r) ∘ X.c = some := by funext c; rfl
    rw [this] at hzl2
    exact map_some_inj _ _ hzl2.symm
  subst hcz
  have hc63 : c.toNat ≤ 140737488355328 := by
    have : c.toNat ≤ c.toNat * te.bytes := Nat.le_mul_of_pos_right _ (by omega)
    omega
  have hrun := run_make (P := P) w t e ie te.zero ud hie hiz kl kc l c h0 h1 (by
    rw [hib]
    have e1 : ((c.toNat * te.bytes : Nat) : Int) = (te.bytes : Int) * c := by
      rw [Int.natCast_mul, Int.toNat_of_nonneg (by omega), Int.mul_comm]
    omega) (by omega)
  have hzc : te.zero.cells.size = te.size := by rw [c2, hzl]
  have hle : l.toNat * te.size ≤ c.toNat * te.size := Nat.mul_le_mul_right _ (by omega)
  have hms : (madeCells te.zero.cells (c.toNat * ie.size)).size = c.toNat * te.size := by rw [size_madeCells, his]
  have hrc := own_new (T := T) (w := w) (S := S) (e := e) (n := l.toNat) (cap := c.toNat) (cur := madeCells te.zero.cells (c.toNat * ie.size)) (cells := repC l.toNat zs) (xs := (madeCells te.zero.cells (c.toNat * ie.size)).toList.take (l.toNat * te.size))
    (by omega) (by unfold maxLen; omega) (by rw [hszT]; exact hms) (by rw [hszT]) (by rw [hszT, List.length_take, Array.length_toList, hms]; omega) (by rw [List.length_take, Array.length_toList, hms, repC_length, hzl]; omega) (fun k q1 q2 => by
      obtain ⟨q3, q4⟩ := repC_get _ _ k q1
      have q5 : k < (madeCells te.zero.cells (c.toNat * ie.size)).size := by
        rw [hms]; rw [repC_length, hzl] at q1; omega
      have e3 : k % te.zero.cells.size < te.zero.cells.size := Nat.mod_lt _ (by omega)
      have e2 : ((madeCells te.zero.cells (c.toNat * ie.size)).toList.take (l.toNat * te.size))[k] = te.zero.cells[k % te.zero.cells.size] := by
        rw [List.getElem_take, Array.getElem_toList]
        simp only [madeCells, Array.getElem_map, Array.getElem_range]
        exact getElem!_pos te.zero.cells _ e3
      rw [e2, q4]
      have := c3 (k % zs.length) q3 (by rw [hzc, ← hzl]; exact q3)
      simpa only [c2] using this) (fun b hb => h.heap.low.1 b hb) w rfl
  refine ⟨_, _, hrun, hrc, Chg.alloc _ w _, fun b hb => ?_, old_alloc _⟩
  cases hb; exact ⟨by simp, Nat.le_refl _⟩
theorem makeSlice_sound (hT : TOk P T) (h : Rel T w0 S0 F st a w S bx ph) (hsp : st.r.getD st.s.length .none = .none) {t e : TypeId} {te : TI} {l c : Int} {kl kc : IntKind} {zs : List C}
    (hd : descOf T t = .slice e) (hte : T e = some te) (hzs : optAll ((cellsOfV (constV te.zero)).map (stab T (std P T) st.r)) = some zs) (hzl : zs.length = te.size) (hz : te.size ≠ 0) (hby : te.bytes ≠ 0)
    (h0 : 0 ≤ l) (h1 : l ≤ c) (h2 : c.toNat * te.bytes ≤ 140737488355328) {dst : Option Nat} (hdst : ∀ k, dst = some k → k < st.s.length) :
    ∃ z w', (Instr.makeSlice t (.int kl l) (.int kc c)).run P w = .ok z w' ∧
      Rels T w0 S0 F (fin { st with r := pushR st.r st.s.length (.own e l.toNat (repC l.toNat zs)) } dst (fun d => .one (.view d 0))) (a.put dst z) w' ∧ Old w w' := by
  obtain ⟨z, w', r1, r2, r3, r4, r5⟩ := make_core (kl := kl) (kc := kc) hT h hd hte hzs hzl hz hby h0 h1 h2
  exact ⟨z, w', r1, own_fin h hsp (W := fun _ => False) r3 (fun _ _ hf => hf.elim) r2 (fun b hb => ⟨(r4 b hb).1, .inl (r4 b hb).2⟩) hdst, r5⟩

/-- bytes of a string: new, and nobody changes them -/
theorem bytes_sound (hT : TOk P T) (h : Rel T w0 S0 F st a w S bx ph) (hsp : st.r.getD st.s.length .none = .none) {src dst' e : TypeId} {s : ByteArray} (hs : P.underlying src = some .string)
    (hd : descOf T dst' = .slice e) (he : descOf T e = .int .u8) {dst : Option Nat} (hdst : ∀ k, dst = some k → k < st.s.length) :
    ∃ z w', (convert src dst' (.string s)).run P w = .ok z w' ∧
      Rels T w0 S0 F (fin st dst (fun _ => .one (.c (.sl s.size (ofBytesC s))))) (a.put dst z) w' ∧ Old w w' := by
  have ud := desc_of hT hd (by simp)
  have ue := desc_of hT he (by simp)
  have hrun := run_bytes_of_string (P := P) w src dst' e s hs ud ue
  generalize hcap : grownCap w s.size 0 e = cap at hrun
  have hle : s.size ≤ cap := by
    rw [← hcap]; unfold grownCap; simp only [Question.cut]; omega
  generalize hO : (Obj.cells (bytesRow s cap) e ((bytesRow s cap).size, (bytesRow s cap).size + 1)) = O at hrun
  refine ⟨_, _, hrun, ?_, fun b hb => Below.heap_alloc w.drew O b hb⟩
  have hrel := h.world (w' := w.drew.alloc O) (W := fun _ => False) ((Chg.drew _ w).trans (Chg.alloc _ w.drew O)) (fun _ _ hf => hf.elim)
  have hnew : (w.drew.alloc O).heap[w.heap.size]? = some O := by
    show (w.heap.push O)[_]? = _
    simp
  have hrel2 : Rel T w0 S0 F st a (w.drew.alloc O) (fun b => S b ∨ b = w.heap.size) bx ph := by
    refine ⟨hrel.size, hrel.rsize, hrel.defers, ?_, hrel.mine, fun i hi => (hrel.slot i hi).mono fun v x hx => hx.frame (fun _ _ => rfl) (fun _ h => .inl h), fun b hb => .inl (hrel.keep b hb), fun b hb => ?_, hrel.chg⟩
    · refine hrel.heap.frame (fun _ _ => rfl) (fun _ h => .inl h) (fun _ _ _ _ => rfl) (Nat.le_refl _) (fun t κ b hb hs => ?_) (fun b hb => ?_)
      · rcases hs with hs | hs
        · exact (hrel.heap.free t κ b hb).1 hs
        · have := (h.heap.free t κ b hb).2; omega
      · rcases hb with hb | hb
        · exact hrel.heap.low.1 b hb
        · subst hb; exact (Array.getElem?_eq_some_iff.1 hnew).1
    · rcases hb with hb | hb
      · exact hrel.new b hb
      · subst hb; exact .inr (.inl h.chg.size)
  have hlen : (ofBytesC s).length = s.size := by simp [ofBytesC]
  refine fin_sound hrel2 hdst (fun k bx' ph' _ _ _ _ _ => ?_)
  refine CRep.sl (fun k => .int .u8 ((s.data.toList.getD k 0).toNat : Int)) (.inr rfl) hle (fun k hk => ?_) (fun k hk => ?_)
  · have hk' : k < s.data.size := by rw [hlen] at hk; exact hk
    have : (bytesRow s cap)[k]? = some (.int .u8 ((s.data.toList.getD k 0).toNat : Int)) := by
      unfold bytesRow
      rw [Array.getElem?_append_left (by simpa using hk')]
      rw [Array.getElem?_map, Array.getElem?_eq_getElem hk', List.getD_eq_getElem?_getD, Array.getElem?_toList, Array.getElem?_eq_getElem hk']; rfl
    rw [Nat.zero_add]
    unfold World.cell?
    dsimp only
    rw [hnew, ← hO]
    exact this
  · have hk' : k < s.data.size := by rw [hlen] at hk; exact hk
    have : (ofBytesC s)[k] = .val (.int .u8 ((s.data.toList.getD k 0).toNat : Int)) := by
      simp only [ofBytesC, List.getElem_map, Array.getElem_toList]
      rw [List.getD_eq_getElem?_getD, Array.getElem?_toList, Array.getElem?_eq_getElem hk']; rfl
    rw [this]
    exact .val rfl
theorem zeros_sound (hT : TOk P T) (h : Rel T w0 S0 F st a w S bx ph) (hsp : st.r.getD st.s.length .none = .none) {t tn ty e : TypeId} {te : TI} {n : Int} {kn kq : IntKind} {zs : List C}
    (hd : descOf T t = .slice e) (hdn : descOf T tn = .int kq) (hte : T e = some te) (hzs : optAll ((cellsOfV (constV te.zero)).map (stab T (std P T) st.r)) = some zs) (hzl : zs.length = te.size) (hz : te.size ≠ 0) (hby : te.bytes ≠ 0)
    (h0 : 1 ≤ n) (h2 : n.toNat * te.bytes ≤ 140737488355328) {dst : Option Nat} (hdst : ∀ k, dst = some k → k < st.s.length) :
    ∃ z w', (Builtin.append_ #[t, tn] ty #[.slice none 0 0, .int kn n]).run P w = .ok z w' ∧
      Rels T w0 S0 F (fin { st with r := pushR st.r st.s.length (.own e n.toNat (repC n.toNat zs)) } dst (fun d => .one (.view d 0))) (a.put dst z) w' ∧ Old w w' := by
  obtain ⟨_, ie, hie, his, hib, hiz, _⟩ := hT e te hte
  have ud := desc_of hT hd (by simp)
  have udn := desc_of hT hdn (by simp)
  have hszT : szOf T e = te.size := by simp [szOf, hte]
  have hzl2 := optAll_some _ _ hzs
  have hne : cellsOfV (constV te.zero) ≠ [] := fun h0 => by
    rw [h0] at hzl2
    have := congrArg List.length hzl2
    simp at this
    exact hz (by rw [← hzl, this])
  obtain ⟨cs, c1, c2, c3⟩ := crep_consts (w := w) (S := S) (v := te.zero) rfl hne
  have hcz : zs = cs := by
    rw [c1, List.map_map] at hzl2
    have : (stab T (std P T) st.r) ∘ X.c = some := by funext c; rfl
    rw [this] at hzl2
    exact map_some_inj _ _ hzl2.symm
  subst hcz
  have hc63 : n.toNat ≤ 140737488355328 := by
    have : n.toNat ≤ n.toNat * te.bytes := Nat.le_mul_of_pos_right _ (by omega)
    omega
  have hrun := Lib.run_append_nil_zeros (P := P) w t tn ty e ie te.zero kn kq ud udn hie hiz n.toNat (by omega) (by rw [his]; omega) (by omega) (by rw [hib]; omega)
  rw [show ((n.toNat : Nat) : Int) = n by omega] at hrun
  have hcap : n.toNat ≤ grownCap w n.toNat 0 e ∧ grownCap w n.toNat 0 e ≤ maxLen := ⟨grownCap_ge w n.toNat 0 e, grownCap_le_maxLen w n.toNat 0 e (by unfold maxLen; omega)⟩
  refine ⟨_, _, hrun, ?_, fun b hb => by rw [old_alloc (w := w.drew) _ b hb]; rfl⟩
  have hzc : te.zero.cells.size = te.size := by rw [c2, hzl]
  generalize grownCap w n.toNat 0 e = cap at hcap
  have hs1 : (Builtin.zeroCells te.zero.cells n.toNat).size = n.toNat * te.size := by simp [Builtin.zeroCells, hzc]
  have hs2 : (Builtin.zeroCells te.zero.cells (cap - n.toNat)).size = (cap - n.toNat) * te.size := by simp [Builtin.zeroCells, hzc]
  have hle : n.toNat * te.size ≤ cap * te.size := Nat.mul_le_mul_right _ hcap.1
  have hsz : (Builtin.zeroCells te.zero.cells n.toNat ++ Builtin.zeroCells te.zero.cells (cap - n.toNat)).size = cap * te.size := by
    rw [Array.size_append, hs1, hs2, Nat.sub_mul]; omega
  have hrc := own_new (T := T) (w := w) (S := S) (e := e) (n := n.toNat) (cap := cap) (cur := Builtin.zeroCells te.zero.cells n.toNat ++ Builtin.zeroCells te.zero.cells (cap - n.toNat)) (cells := repC n.toNat zs) (xs := (Builtin.zeroCells te.zero.cells n.toNat).toList)
    hcap.1 hcap.2 (by rw [hszT]; exact hsz) (by rw [hszT, Array.toList_append, List.take_left' (by rw [Array.length_toList, hs1])]) (by rw [hszT, Array.length_toList, hs1]) (by rw [Array.length_toList, hs1, repC_length, hzl]) (fun k q1 q2 => by
      obtain ⟨q3, q4⟩ := repC_get _ _ k q1
      have e3 : k % te.zero.cells.size < te.zero.cells.size := Nat.mod_lt _ (by omega)
      have e2 : (Builtin.zeroCells te.zero.cells n.toNat).toList[k] = te.zero.cells[k % te.zero.cells.size] := by
        rw [Array.getElem_toList]
        simp only [Builtin.zeroCells, Array.getElem_map, Array.getElem_range]
        exact getElem!_pos te.zero.cells _ e3
      rw [e2, q4]
      have := c3 (k % zs.length) q3 (by rw [hzc, ← hzl]; exact q3)
      simpa only [c2] using this) (fun b hb => h.heap.low.1 b hb) w.drew rfl
  exact own_fin h hsp (w' := w.drew.alloc _) (W := fun _ => False) ((Chg.drew _ w).trans (Chg.alloc _ w.drew _)) (fun _ _ hf => hf.elim) hrc (fun b hb => by
    cases hb; exact ⟨by simp, .inl (Nat.le_refl _)⟩) hdst
end Go.Proofs.Ytdmdcmhgfgookaa.A
