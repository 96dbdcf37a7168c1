/- What the laws of this seat need, part 2. -/
import Derived.Test.YtcpcghnpoekhpaaMz1
import Derived.Lib.AppendZeros
/- The ghost machine, part 15: the operations that make or change memory. -/
set_option linter.unusedSimpArgs false
set_option linter.unusedVariables false
set_option maxRecDepth 100000
set_option maxHeartbeats 4000000
namespace Go.Proofs.Ytcpcghnpoekhpaa.A
open Go Go.RowKit
variable {P : Program} {T : TT} {w w' w0 : World} {S S0 : Nat → Prop} {F : Fr} {bx : Nat → Nat} {ph : Nat → Nat → Pv} {a : Act} {st st' : St}
theorem freeze_spare {S' : Nat → Prop} (h : Frozen T w0 S0 F st st' a w S S' bx ph) (hsp : st.r.getD st.s.length .none = .none) : st'.r.getD st'.s.length .none = .none := by
 rw [h.len]; exact h.spare _ hsp
theorem flat_values {us : List V} (h : Heap T w S st.r bx ph) {vs : List Value} (hl : vs.length = us.length) (hv : ∀ k (h : k < us.length) (h2 : k < vs.length), VRep T w S st.r bx ph vs[k] us[k]) (hne : ∀ u ∈ us, cellsOfV u ≠ []) :
  ((vs.map fun v => v.cells.toList).flatten).length = ((us.map cellsOfV).flatten).length ∧ ∀ k (h1 : k < ((us.map cellsOfV).flatten).length) (h2 : k < ((vs.map fun v => v.cells.toList).flatten).length),
   XRep T w S st.r bx ph ((vs.map fun v => v.cells.toList).flatten)[k] ((us.map cellsOfV).flatten)[k] := by
 induction us generalizing vs with
 | nil =>
  have : vs = [] := List.eq_nil_of_length_eq_zero hl
  subst this
  exact ⟨rfl, fun k hk => absurd hk (by simp)⟩
 | cons u us ih =>
  cases vs with
  | nil => simp at hl
  | cons v vs =>
   have h0 : XsRep T w S st.r bx ph v.cells (cellsOfV u) := cellsOf_sound h (hv 0 (by simp) (by simp)) (hne u (List.mem_cons_self ..))
   obtain ⟨i1, i2⟩ := ih (vs := vs) (by simpa using hl) (fun k hk hk2 => hv (k + 1) (by simp; omega) (by simp; omega)) (fun u hu => hne u (List.mem_cons_of_mem _ hu))
   have hl0 : v.cells.toList.length = (cellsOfV u).length := by rw [Array.length_toList]; exact h0.1
   simp only [List.map_cons, List.flatten_cons]
   refine ⟨by rw [List.length_append, List.length_append, hl0, i1], fun k hk hk2 => ?_⟩
   by_cases hlt : k < (cellsOfV u).length
   ·rw [List.getElem_append_left hlt, List.getElem_append_left (by omega)]
    have hk3 : k < v.cells.size := by rw [h0.1]; exact hlt
    simpa using h0.2 k hlt hk3
   ·rw [List.getElem_append_right (by omega), List.getElem_append_right (by omega)]
    simp only [hl0]
    exact i2 _ _ _
theorem vals_of {xs : List Operand} (h : Rel T w0 S0 F st a w S bx ph) : ∀ k (h1 : k < (xs.map (ev st.s)).length) (h2 : k < (xs.map a.eval).length), VRep T w S st.r bx ph (xs.map a.eval)[k] (xs.map (ev st.s))[k] := by
 intro k h1 h2
 simp only [List.getElem_map]
 exact ev_sound h _
theorem buildSlice_sound (hT : TOk P T) (h : Rel T w0 S0 F st a w S bx ph) (hsp : st.r.getD st.s.length .none = .none) {t e : TypeId} {te : TI} {len : Nat} {parts : Array (Nat × Operand)} {cs : List C}
    (hd : descOf T t = .slice e) (hte : T e = some te) (hix : parts.toList.map (·.1) = List.range len) (hall : ∀ p ∈ parts.toList, (cellsOfV (ev st.s p.2)).length = te.size) (hsmall : len * te.size ≤ 2 ^ 24) (hz : te.size ≠ 0)
    (hcs : optAll ((parts.toList.map fun p => cellsOfV (ev st.s p.2)).flatten.map (stab T (std P T) st.r)) = some cs) {dst : Option Nat} (hdst : ∀ k, dst = some k → k < st.s.length) :
    ∃ z w', (Instr.buildSlice t len (parts.map fun p => (p.1, a.eval p.2))).run P w = .ok z w' ∧
      Rels T w0 S0 F (fin { ((parts.toList.map fun p => cellsOfV (ev st.s p.2)).flatten.foldl (freezeX T (std P T)) st) with r := pushR ((parts.toList.map fun p => cellsOfV (ev st.s p.2)).flatten.foldl (freezeX T (std P T)) st).r st.s.length (.own e len cs) } dst (fun d => .one (.view d 0))) (a.put dst z) w' ∧ Old w w' := by
  obtain ⟨_, ie, hie, his, hib, hiz, _⟩ := hT e te hte
  have ud := desc_of hT hd (by simp)
  have hlen : parts.toList.length = len := by have := congrArg List.length hix; simpa using this
  obtain ⟨f1, f2⟩ := flat_values (us := parts.toList.map fun p => ev st.s p.2) h.heap (vs := parts.toList.map fun p => a.eval p.2) (by simp) (fun k h1 h2 => by
    simp only [List.getElem_map]; exact ev_sound h _) (fun u hu => by
      obtain ⟨p, hp, rfl⟩ := List.mem_map.1 hu
      intro h0
      have := hall p hp
      rw [h0] at this
      exact hz this.symm)
  have e1 : ((parts.toList.map fun p => ev st.s p.2).map cellsOfV).flatten = (parts.toList.map fun p => cellsOfV (ev st.s p.2)).flatten := by rw [List.map_map]; rfl
  rw [e1] at f1 f2
  obtain ⟨S', hf, hcl, hcr⟩ := stab_all (P := P) h f1 f2 hcs
  have hvsz : ∀ v ∈ parts.toList.map (fun p => a.eval p.2), v.cells.size = te.size := fun v hv => by
    obtain ⟨p, hp, rfl⟩ := List.mem_map.1 hv
    have hne : cellsOfV (ev st.s p.2) ≠ [] := fun h0 => by
      have := hall p hp
      rw [h0] at this; exact hz this.symm
    rw [(cellsOf_sound h.heap (ev_sound h p.2) hne).1]; exact hall p hp
  obtain ⟨cells', g1, g2⟩ := fill_range (sz := te.size) (parts.toList.map fun p => a.eval p.2) 0 (parts.map fun p => (p.1, a.eval p.2)).toList ((Array.range (len * ie.size)).map (te.zero.cells[· % te.zero.cells.size]!))
    (by
      simp only [Array.toList_map, List.map_map, List.length_map, hlen]
      have : (fun x => 0 + x) = (id : Nat → Nat) := by funext x; simp
      rw [this, List.map_id, ← hix]; rfl)
    (by simp only [Array.toList_map, List.map_map]; rfl) (by simp [hlen, his]) hvsz
  simp only [Nat.zero_mul, List.take_zero, List.nil_append] at g2
  have hrun : (Instr.buildSlice t len (parts.map fun p => (p.1, a.eval p.2))).run P w = .ok (.slice (some ⟨w.heap.size, 0, none⟩) len len) (w.alloc (.cells cells' e)) := by
    by_cases hz0 : len * te.size = 0
    · have hl0 : len = 0 := by
        rcases Nat.mul_eq_zero.1 hz0 with h0 | h0
        · exact h0
        · exact absurd h0 hz
      subst hl0
      have hp0 : parts = #[] := by
        apply Array.eq_empty_of_size_eq_zero; simpa using hlen
      subst hp0
      have hc0 : cells' = #[] := by
        apply Array.toList_inj.1; rw [g2]; rfl
      subst hc0
      simp [Instr.buildSlice, run_underlying ud, sizeOf, typeInfo, hie, newRow, Instr.fill, Array.range_zero']
    · exact run_buildSlice (P := P) w t e len _ cells' ie te.zero ud hie hiz (by rw [his]; omega) (by rw [his]; exact hz0) (by rw [his]; rw [his] at g1; exact g1)
  have hsz : szOf T e = te.size := by simp [szOf, hte]
  have hcl2 : cells'.toList.length = len * te.size := by
    rw [g2, f1]
    have key : ∀ l : List (Nat × Operand), (∀ p ∈ l, (cellsOfV (ev st.s p.2)).length = te.size) → ((l.map fun p => cellsOfV (ev st.s p.2)).flatten).length = l.length * te.size := fun l => by
      induction l with
      | nil => intro _; simp
      | cons p l ih =>
        intro hl
        rw [List.map_cons, List.flatten_cons, List.length_append, ih (fun q hq => hl q (List.mem_cons_of_mem _ hq)), hl p (List.mem_cons_self ..), List.length_cons, Nat.succ_mul]; omega
    rw [key _ hall, hlen]
  refine ⟨_, _, hrun, ?_, old_alloc _⟩
  have hlm : len ≤ maxLen := by
    have : len ≤ len * te.size := Nat.le_mul_of_pos_right _ (by omega)
    unfold maxLen; omega
  have hrc := own_new (T := T) (w := w) (S := S') (e := e) (n := len) (cap := len) (cur := cells') (cells := cs) (xs := cells'.toList) (Nat.le_refl _) hlm (by rw [hsz, ← hcl2]; simp) (by rw [hsz, List.take_of_length_le (by omega)]) (by rw [hsz]; exact hcl2)
    (by rw [hcl, g2]) (fun k q1 q2 => by
      have q3 : k < ((parts.toList.map fun p => a.eval p.2).map fun v => v.cells.toList).flatten.length := by rw [← g2]; exact q2
      have := hcr k q1 q3
      have e2 : cells'.toList[k] = (((parts.toList.map fun p => a.eval p.2).map fun v => v.cells.toList).flatten)[k] := by
        congr 1
      rw [e2]; exact this) (fun b hb => hf.rel.heap.low.1 b hb) w rfl
  have := own_fin hf.rel (freeze_spare hf hsp) (w' := w.alloc (.cells cells' e)) (W := fun _ => False) (Chg.alloc _ w _) (fun _ _ hf => hf.elim) hrc (fun b hb => by
    cases hb; exact ⟨by simp, .inl (Nat.le_refl _)⟩) (dst := dst) (fun k hk => by rw [hf.len]; exact hdst k hk)
  rw [hf.len] at this
  exact this
end Go.Proofs.Ytcpcghnpoekhpaa.A
/- The ghost machine, part 16: make, append, bytes of a string, stores. -/
set_option linter.unusedSimpArgs false
set_option linter.unusedVariables false
set_option maxRecDepth 100000
set_option maxHeartbeats 4000000
namespace Go.Proofs.Ytcpcghnpoekhpaa.A
open Go Go.RowKit
variable {P : Program} {T : TT} {w w' w0 : World} {S S0 : Nat → Prop} {F : Fr} {bx : Nat → Nat} {ph : Nat → Nat → Pv} {a : Act} {st st' : St}
theorem crep_consts {v : Value} {xs : List X} (h : cellsOfV (constV v) = xs) (hne : xs ≠ []) : ∃ cs : List C, xs = cs.map .c ∧ v.cells.size = cs.length ∧ ∀ k (h : k < cs.length) (h2 : k < v.cells.size), CRep w S v.cells[k] cs[k] := by
 subst h
 unfold constV at *
 split at hne
 ·rename_i cs
  split at hne
  ·rename_i hall
   rw [if_pos hall]
   refine ⟨cs.toList.map constC, by simp [cellsOfV, Function.comp_def], by simp [Value.cells], fun k hk hk2 => ?_⟩
   have hk2' : k < cs.size := hk2
   have := List.all_eq_true.1 hall cs[k] (by simp)
   simp only [List.getElem_map, Array.getElem_toList, Value.cells]
   exact crep_const this
  ·exact absurd rfl hne
 ·rename_i hna
  split at hne
  ·rename_i hok
   rw [if_pos hok]
   have hcells : v.cells = #[v] := by cases v <;> first | rfl | exact absurd rfl (hna _)
   refine ⟨[constC v], rfl, by rw [hcells]; rfl, fun k hk hk2 => ?_⟩
   have : k = 0 := by simpa using hk
   subst this
   simp only [hcells]
   exact crep_const hok
  ·exact absurd rfl hne
theorem repC_length (n : Nat) (zs : List C) : (repC n zs).length = n * zs.length := by
 unfold repC
 induction n with
 | zero => simp
 | succ n ih => rw [List.replicate_succ, List.flatten_cons, List.length_append, ih, Nat.succ_mul]; omega
theorem repC_get (n : Nat) (zs : List C) : ∀ k (h : k < (repC n zs).length), ∃ h2 : k % zs.length < zs.length, (repC n zs)[k] = zs[k % zs.length] := by
 induction n with
 | zero => intro k h; simp [repC] at h
 | succ n ih =>
  intro k h
  have hpos : 0 < zs.length := by
   rw [repC_length] at h
   rcases Nat.eq_zero_or_pos zs.length with h0 | h0
   ·rw [h0] at h; simp at h
   ·exact h0
  have e : repC (n + 1) zs = zs ++ repC n zs := by unfold repC; rw [List.replicate_succ, List.flatten_cons]
  refine ⟨Nat.mod_lt _ hpos, ?_⟩
  by_cases hk : k < zs.length
  ·simp only [e, List.getElem_append_left hk, Nat.mod_eq_of_lt hk]
  ·have hk2 : k - zs.length < (repC n zs).length := by rw [e, List.length_append] at h; omega
   obtain ⟨h3, h4⟩ := ih (k - zs.length) hk2
   simp only [e, List.getElem_append_right (Nat.le_of_not_lt hk), h4]
   congr 1
   exact (Nat.mod_eq_sub_mod (Nat.le_of_not_lt hk)).symm
theorem map_some_inj {α : Type} : ∀ l r : List α, l.map some = r.map some → l = r := by
 intro l
 induction l with
 | nil => intro r h; cases r with | nil => rfl | cons a r => cases h
 | cons a l ih =>
  intro r h
  cases r with
  | nil => cases h
  | cons b r =>
   simp only [List.map_cons, List.cons.injEq, Option.some.injEq] at h
   rw [h.1, ih r h.2]
theorem make_core (hT : TOk P T) (h : Rel T w0 S0 F st a w S bx ph) {t e : TypeId} {te : TI} {l c : Int} {kl kc : IntKind} {zs : List C}
    (hd : descOf T t = .slice e) (hte : T e = some te) (hzs : optAll ((cellsOfV (constV te.zero)).map (stab T (std P T) st.r)) = some zs) (hzl : zs.length = te.size) (hz : te.size ≠ 0) (hby : te.bytes ≠ 0)
    (h0 : 0 ≤ l) (h1 : l ≤ c) (h2 : c.toNat * te.bytes ≤ 140737488355328) :
    ∃ z w', (Instr.makeSlice t (.int kl l) (.int kc c)).run P w = .ok z w' ∧ RCRep T w' S (.of z) (.own e l.toNat (repC l.toNat zs)) ∧ Chg (fun _ => False) w w' ∧ (∀ b, z.ownBlock = some b → b < w'.heap.size ∧ w.heap.size ≤ b) ∧ Old w w' := by
  obtain ⟨_, ie, hie, his, hib, hiz, _⟩ := hT e te hte
  have ud := desc_of hT hd (by simp)
  have hszT : szOf T e = te.size := by simp [szOf, hte]
  have hzl2 := optAll_some _ _ hzs
  have hne : cellsOfV (constV te.zero) ≠ [] := fun h0 => by
    rw [h0] at hzl2
    have := congrArg List.length hzl2
    simp at this
    exact hz (by rw [← hzl, this])
  obtain ⟨cs, c1, c2, c3⟩ := crep_consts (w := w) (S := S) (v := te.zero) rfl hne
  have hcz : zs = cs := by
    rw [c1, List.map_map] at hzl2
    have : (stab T (std P T) st.r) ∘ X.c = some := by funext c; rfl
    rw [this] at hzl2
    exact map_some_inj _ _ hzl2.symm
  subst hcz
  have hc63 : c.toNat ≤ 140737488355328 := by
    have : c.toNat ≤ c.toNat * te.bytes := Nat.le_mul_of_pos_right _ (by omega)
    omega
  have hrun := run_make (P := P) w t e ie te.zero ud hie hiz kl kc l c h0 h1 (by
    rw [hib]
    have e1 : ((c.toNat * te.bytes : Nat) : Int) = (te.bytes : Int) * c := by
      rw [Int.natCast_mul, Int.toNat_of_nonneg (by omega), Int.mul_comm]
    omega) (by omega)
  have hzc : te.zero.cells.size = te.size := by rw [c2, hzl]
  have hle : l.toNat * te.size ≤ c.toNat * te.size := Nat.mul_le_mul_right _ (by omega)
  have hms : (madeCells te.zero.cells (c.toNat * ie.size)).size = c.toNat * te.size := by rw [size_madeCells, his]
  have hrc := own_new (T := T) (w := w) (S := S) (e := e) (n := l.toNat) (cap := c.toNat) (cur := madeCells te.zero.cells (c.toNat * ie.size)) (cells := repC l.toNat zs) (xs := (madeCells te.zero.cells (c.toNat * ie.size)).toList.take (l.toNat * te.size))
    (by omega) (by unfold maxLen; omega) (by rw [hszT]; exact hms) (by rw [hszT]) (by rw [hszT, List.length_take, Array.length_toList, hms]; omega) (by rw [List.length_take, Array.length_toList, hms, repC_length, hzl]; omega) (fun k q1 q2 => by
      obtain ⟨q3, q4⟩ := repC_get _ _ k q1
      have q5 : k < (madeCells te.zero.cells (c.toNat * ie.size)).size := by
        rw [hms]; rw [repC_length, hzl] at q1; omega
      have e3 : k % te.zero.cells.size < te.zero.cells.size := Nat.mod_lt _ (by omega)
      have e2 : ((madeCells te.zero.cells (c.toNat * ie.size)).toList.take (l.toNat * te.size))[k] = te.zero.cells[k % te.zero.cells.size] := by
        rw [List.getElem_take, Array.getElem_toList]
        simp only [madeCells, Array.getElem_map, Array.getElem_range]
        exact getElem!_pos te.zero.cells _ e3
      rw [e2, q4]
      have := c3 (k % zs.length) q3 (by rw [hzc, ← hzl]; exact q3)
      simpa only [c2] using this) (fun b hb => h.heap.low.1 b hb) w rfl
  refine ⟨_, _, hrun, hrc, Chg.alloc _ w _, fun b hb => ?_, old_alloc _⟩
  cases hb; exact ⟨by simp, Nat.le_refl _⟩
theorem makeSlice_sound (hT : TOk P T) (h : Rel T w0 S0 F st a w S bx ph) (hsp : st.r.getD st.s.length .none = .none) {t e : TypeId} {te : TI} {l c : Int} {kl kc : IntKind} {zs : List C}
  (hd : descOf T t = .slice e) (hte : T e = some te) (hzs : optAll ((cellsOfV (constV te.zero)).map (stab T (std P T) st.r)) = some zs) (hzl : zs.length = te.size) (hz : te.size ≠ 0) (hby : te.bytes ≠ 0)
  (h0 : 0 ≤ l) (h1 : l ≤ c) (h2 : c.toNat * te.bytes ≤ 140737488355328) {dst : Option Nat} (hdst : ∀ k, dst = some k → k < st.s.length) :
  ∃ z w', (Instr.makeSlice t (.int kl l) (.int kc c)).run P w = .ok z w' ∧
   Rels T w0 S0 F (fin { st with r := pushR st.r st.s.length (.own e l.toNat (repC l.toNat zs)) } dst (fun d => .one (.view d 0))) (a.put dst z) w' ∧ Old w w' := by
 obtain ⟨z, w', r1, r2, r3, r4, r5⟩ := make_core (kl := kl) (kc := kc) hT h hd hte hzs hzl hz hby h0 h1 h2
 exact ⟨z, w', r1, own_fin h hsp (W := fun _ => False) r3 (fun _ _ hf => hf.elim) r2 (fun b hb => ⟨(r4 b hb).1, .inl (r4 b hb).2⟩) hdst, r5⟩
theorem bytes_sound (hT : TOk P T) (h : Rel T w0 S0 F st a w S bx ph) (hsp : st.r.getD st.s.length .none = .none) {src dst' e : TypeId} {s : ByteArray} (hs : P.underlying src = some .string)
  (hd : descOf T dst' = .slice e) (he : descOf T e = .int .u8) {dst : Option Nat} (hdst : ∀ k, dst = some k → k < st.s.length) :
  ∃ z w', (convert src dst' (.string s)).run P w = .ok z w' ∧
   Rels T w0 S0 F (fin st dst (fun _ => .one (.c (.sl s.size (ofBytesC s))))) (a.put dst z) w' ∧ Old w w' := by
 have ud := desc_of hT hd (by simp)
 have ue := desc_of hT he (by simp)
 have hrun := run_bytes_of_string (P := P) w src dst' e s hs ud ue
 generalize hcap : grownCap w s.size 0 e = cap at hrun
 have hle : s.size ≤ cap := by
  rw [← hcap]; unfold grownCap; simp only [Question.cut]; omega
 generalize hO : (Obj.cells (bytesRow s cap) e ((bytesRow s cap).size, (bytesRow s cap).size + 1)) = O at hrun
 refine ⟨_, _, hrun, ?_, fun b hb => Below.heap_alloc w.drew O b hb⟩
 have hrel := h.world (w' := w.drew.alloc O) (W := fun _ => False) ((Chg.drew _ w).trans (Chg.alloc _ w.drew O)) (fun _ _ hf => hf.elim)
 have hnew : (w.drew.alloc O).heap[w.heap.size]? = some O := by
  show (w.heap.push O)[_]? = _
  simp
 have hrel2 : Rel T w0 S0 F st a (w.drew.alloc O) (fun b => S b ∨ b = w.heap.size) bx ph := by
  refine ⟨hrel.size, hrel.rsize, hrel.defers, ?_, hrel.mine, fun i hi => (hrel.slot i hi).mono fun v x hx => hx.frame (fun _ _ => rfl) (fun _ h => .inl h), fun b hb => .inl (hrel.keep b hb), fun b hb => ?_, hrel.chg⟩
  ·refine hrel.heap.frame (fun _ _ => rfl) (fun _ h => .inl h) (fun _ _ _ _ => rfl) (Nat.le_refl _) (fun t κ b hb hs => ?_) (fun b hb => ?_)
   ·rcases hs with hs | hs
    ·exact (hrel.heap.free t κ b hb).1 hs
    ·have := (h.heap.free t κ b hb).2; omega
   ·rcases hb with hb | hb
    ·exact hrel.heap.low.1 b hb
    ·subst hb; exact (Array.getElem?_eq_some_iff.1 hnew).1
  ·rcases hb with hb | hb
   ·exact hrel.new b hb
   ·subst hb; exact .inr (.inl h.chg.size)
 have hlen : (ofBytesC s).length = s.size := by simp [ofBytesC]
 refine fin_sound hrel2 hdst (fun k bx' ph' _ _ _ _ _ => ?_)
 refine CRep.sl (fun k => .int .u8 ((s.data.toList.getD k 0).toNat : Int)) (.inr rfl) hle (fun k hk => ?_) (fun k hk => ?_)
 ·have hk' : k < s.data.size := by rw [hlen] at hk; exact hk
  have : (bytesRow s cap)[k]? = some (.int .u8 ((s.data.toList.getD k 0).toNat : Int)) := by
   unfold bytesRow
   rw [Array.getElem?_append_left (by simpa using hk')]
   rw [Array.getElem?_map, Array.getElem?_eq_getElem hk', List.getD_eq_getElem?_getD, Array.getElem?_toList, Array.getElem?_eq_getElem hk']; rfl
  rw [Nat.zero_add]
  unfold World.cell?
  dsimp only
  rw [hnew, ← hO]
  exact this
 ·have hk' : k < s.data.size := by rw [hlen] at hk; exact hk
  have : (ofBytesC s)[k] = .val (.int .u8 ((s.data.toList.getD k 0).toNat : Int)) := by
   simp only [ofBytesC, List.getElem_map, Array.getElem_toList]
   rw [List.getD_eq_getElem?_getD, Array.getElem?_toList, Array.getElem?_eq_getElem hk']; rfl
  rw [this]
  exact .val rfl
theorem zeros_sound (hT : TOk P T) (h : Rel T w0 S0 F st a w S bx ph) (hsp : st.r.getD st.s.length .none = .none) {t tn ty e : TypeId} {te : TI} {n : Int} {kn kq : IntKind} {zs : List C}
    (hd : descOf T t = .slice e) (hdn : descOf T tn = .int kq) (hte : T e = some te) (hzs : optAll ((cellsOfV (constV te.zero)).map (stab T (std P T) st.r)) = some zs) (hzl : zs.length = te.size) (hz : te.size ≠ 0) (hby : te.bytes ≠ 0)
    (h0 : 1 ≤ n) (h2 : n.toNat * te.bytes ≤ 140737488355328) {dst : Option Nat} (hdst : ∀ k, dst = some k → k < st.s.length) :
    ∃ z w', (Builtin.append_ #[t, tn] ty #[.slice none 0 0, .int kn n]).run P w = .ok z w' ∧
      Rels T w0 S0 F (fin { st with r := pushR st.r st.s.length (.own e n.toNat (repC n.toNat zs)) } dst (fun d => .one (.view d 0))) (a.put dst z) w' ∧ Old w w' := by
  obtain ⟨_, ie, hie, his, hib, hiz, _⟩ := hT e te hte
  have ud := desc_of hT hd (by simp)
  have udn := desc_of hT hdn (by simp)
  have hszT : szOf T e = te.size := by simp [szOf, hte]
  have hzl2 := optAll_some _ _ hzs
  have hne : cellsOfV (constV te.zero) ≠ [] := fun h0 => by
    rw [h0] at hzl2
    have := congrArg List.length hzl2
    simp at this
    exact hz (by rw [← hzl, this])
  obtain ⟨cs, c1, c2, c3⟩ := crep_consts (w := w) (S := S) (v := te.zero) rfl hne
  have hcz : zs = cs := by
    rw [c1, List.map_map] at hzl2
    have : (stab T (std P T) st.r) ∘ X.c = some := by funext c; rfl
    rw [this] at hzl2
    exact map_some_inj _ _ hzl2.symm
  subst hcz
  have hc63 : n.toNat ≤ 140737488355328 := by
    have : n.toNat ≤ n.toNat * te.bytes := Nat.le_mul_of_pos_right _ (by omega)
    omega
  have hrun := Lib.run_append_nil_zeros (P := P) w t tn ty e ie te.zero kn kq ud udn hie hiz n.toNat (by omega) (by rw [his]; omega) (by omega) (by rw [hib]; omega)
  rw [show ((n.toNat : Nat) : Int) = n by omega] at hrun
  have hcap : n.toNat ≤ grownCap w n.toNat 0 e ∧ grownCap w n.toNat 0 e ≤ maxLen := ⟨grownCap_ge w n.toNat 0 e, grownCap_le_maxLen w n.toNat 0 e (by unfold maxLen; omega)⟩
  refine ⟨_, _, hrun, ?_, fun b hb => by rw [old_alloc (w := w.drew) _ b hb]; rfl⟩
  have hzc : te.zero.cells.size = te.size := by rw [c2, hzl]
  generalize grownCap w n.toNat 0 e = cap at hcap
  have hs1 : (Builtin.zeroCells te.zero.cells n.toNat).size = n.toNat * te.size := by simp [Builtin.zeroCells, hzc]
  have hs2 : (Builtin.zeroCells te.zero.cells (cap - n.toNat)).size = (cap - n.toNat) * te.size := by simp [Builtin.zeroCells, hzc]
  have hle : n.toNat * te.size ≤ cap * te.size := Nat.mul_le_mul_right _ hcap.1
  have hsz : (Builtin.zeroCells te.zero.cells n.toNat ++ Builtin.zeroCells te.zero.cells (cap - n.toNat)).size = cap * te.size := by
    rw [Array.size_append, hs1, hs2, Nat.sub_mul]; omega
  have hrc := own_new (T := T) (w := w) (S := S) (e := e) (n := n.toNat) (cap := cap) (cur := Builtin.zeroCells te.zero.cells n.toNat ++ Builtin.zeroCells te.zero.cells (cap - n.toNat)) (cells := repC n.toNat zs) (xs := (Builtin.zeroCells te.zero.cells n.toNat).toList)
    hcap.1 hcap.2 (by rw [hszT]; exact hsz) (by rw [hszT, Array.toList_append, List.take_left' (by rw [Array.length_toList, hs1])]) (by rw [hszT, Array.length_toList, hs1]) (by rw [Array.length_toList, hs1, repC_length, hzl]) (fun k q1 q2 => by
      obtain ⟨q3, q4⟩ := repC_get _ _ k q1
      have e3 : k % te.zero.cells.size < te.zero.cells.size := Nat.mod_lt _ (by omega)
      have e2 : (Builtin.zeroCells te.zero.cells n.toNat).toList[k] = te.zero.cells[k % te.zero.cells.size] := by
        rw [Array.getElem_toList]
        simp only [Builtin.zeroCells, Array.getElem_map, Array.getElem_range]
        exact getElem!_pos te.zero.cells _ e3
      rw [e2, q4]
      have := c3 (k % zs.length) q3 (by rw [hzc, ← hzl]; exact q3)
      simpa only [c2] using this) (fun b hb => h.heap.low.1 b hb) w.drew rfl
  exact own_fin h hsp (w' := w.drew.alloc _) (W := fun _ => False) ((Chg.drew _ w).trans (Chg.alloc _ w.drew _)) (fun _ _ hf => hf.elim) hrc (fun b hb => by
    cases hb; exact ⟨by simp, .inl (Nat.le_refl _)⟩) hdst
end Go.Proofs.Ytcpcghnpoekhpaa.A
/- The ghost machine, part 17: append. -/
set_option linter.unusedSimpArgs false
set_option linter.unusedVariables false
set_option maxRecDepth 100000
set_option maxHeartbeats 4000000
namespace Go.Proofs.Ytcpcghnpoekhpaa.A
open Go Go.RowKit
variable {P : Program} {T : TT} {w w' w0 : World} {S S0 : Nat → Prop} {F : Fr} {bx : Nat → Nat} {ph : Nat → Nat → Pv} {a : Act} {st st' : St}
theorem crep_one {v : Value} {c : C} (h : CRep w S v c) : v.oneCell' = true := by
 cases h with
 | val hp => cases v <;> first | rfl | (simp [plain] at hp)
 | nil => rfl
 | sl0 => rfl
 | sl _ _ _ _ _ => rfl
 | mem _ _ _ _ => rfl
 | map0 => rfl
 | map _ _ _ _ _ _ _ _ => rfl
theorem dead_sound (h : Rel T w0 S0 F st a w S bx ph) (t o : Nat) : Rel T w0 S0 F { s := kill (ofCell t o) st.s, r := setCellR st.r t o .dead } a w S bx ph := by
 refine h.ghost (fun x => if ofCell t o x then .undef else x) rfl (by simp [length_setCell]) (h.heap.dead t o) (fun t κ b hb => ⟨t, κ, (owns_dead hb).1⟩) (fun v x hx => ?_) (fun _ h => h) (fun _ h => .inl h)
 split
 ·trivial
 ·rename_i hh; exact XRep.dead hx (by simpa using hh)
theorem run_append_empty (hT : TOk P T) {t ty e : TypeId} {te : TI} (hd : P.underlying t = some (.slice e)) (hte : T e = some te) {v : Value} {n : Nat} {xs : List Value} {sz : Nat} (hown : w.ownsRow 0 e sz v n xs) (aa : Option Addr) (c : Nat) :
  (Builtin.append_ #[t, t] ty #[v, .slice aa 0 c]).run P w = .ok v w := by
 have hv : ∃ a cap, v = .slice a n cap ∧ n ≤ cap := by
  rcases hown.2 with ⟨rfl, rfl⟩ | ⟨g, cap, cur, rfl, _, _, hn, _⟩
  ·exact ⟨_, _, rfl, Nat.le_refl _⟩
  ·exact ⟨_, _, rfl, hn⟩
 obtain ⟨a1, cap, rfl, hn⟩ := hv
 have hsz := run_sizeOf hT hte w
 cases aa <;> cases a1 <;> simp [Builtin.append_, run_underlying hd, hsz, Builtin.lenOf, hn, Builtin.firstCells, storeCells, loadCells, loadCellsFrom]
theorem base_sound (h : Heap T w S st.r bx ph) {e : TypeId} {V : V} {v : Value} {b : Option (Nat × Nat)} {n : Nat} {cells : List C} (hv : VRep T w S st.r bx ph v V)
  (hp : appBase (std P T) st e (szOf T e) V = some (b, n, cells)) : ∃ xs, w.ownsRow 0 e (szOf T e) v n xs ∧ xs.length = cells.length ∧ (∀ k (h : k < cells.length) (h2 : k < xs.length), CRep w S xs[k] cells[k]) ∧
   (b = none → v = .slice none 0 0 ∧ n = 0 ∧ cells = []) ∧ ∀ t o, b = some (t, o) → t ≠ st.s.length ∧ ∀ g, v.ownBlock = some g → owns st.r bx ph t (some o) g := by
 unfold appBase at hp
 split at hp
 ·cases hp
  rw [crep_nil hv]
  exact ⟨[], World.ownsRow_nil _ _ _ _, rfl, fun k hk => absurd hk (by simp), fun _ => ⟨rfl, rfl, rfl⟩, fun t o h => by cases h⟩
 ·rename_i t o
  split at hp
  ·rename_i e' n' cells' hown
   split at hp
   ·rename_i hc
    obtain ⟨rfl, hne⟩ := hc
    cases hp
    have hc2 := ownAt_eq hown
    obtain ⟨_, _, _, _, rfl⟩ := hv
    obtain ⟨xs, x1, x2, x3⟩ := h.cell hc2
    refine ⟨xs, x1, x2, x3, (fun h => by cases h), fun t' o' he => ?_⟩
    cases he
    exact ⟨hne, fun g hg => own_blk hc2 hg⟩
   ·cases hp
  ·cases hp
 ·rename_i t o hi
  split at hp
  ·rename_i e' n' cells' hown
   split at hp
   ·rename_i hc
    obtain ⟨rfl, hne⟩ := hc
    cases hp
    have hc2 := ownAt_eq hown
    obtain ⟨e'', n'', cells'', aa, cap, a', h1, h2, h3, h4, h5, h6, h7⟩ := hv
    rw [hc2] at h1; cases h1
    have := h6 rfl
    subst this
    obtain ⟨xs, x1, x2, x3⟩ := h.cell hc2
    rw [h2] at x1
    have hv2 : v = .slice a' n cap := by rw [h5]; rfl
    rw [mulSz_std]
    refine ⟨xs.take (n * szOf T e), by rw [hv2]; exact owns_take x1 h4, ?_, fun k hk hk2 => ?_, (fun h => by cases h), fun t' o' he => ?_⟩
    ·show _ = (extC cells' 0 (n * szOf T e)).length
     simp [extC, x2]
    ·have hk' : k < (extC cells' 0 (n * szOf T e)).length := hk
     have hk3 : k < cells'.length := by simp [extC] at hk'; omega
     have e1 : (extC cells' 0 (n * szOf T e))[k] = cells'[k] := by simp [extC]
     show CRep w S (xs.take (n * szOf T e))[k] (extC cells' 0 (n * szOf T e))[k]
     rw [e1, List.getElem_take]
     exact x3 k _ _
    ·cases he
     refine ⟨hne, fun g hg => own_blk hc2 ?_⟩
     show (ph t o).v.ownBlock = some g; rw [hv2] at hg; rw [h2]
     cases a' with
     | none => cases hg
     | some x => exact hg
   ·cases hp
  ·cases hp
 ·cases hp
theorem news_sound (h : Heap T w S st.r bx ph) {e : TypeId} {V : V} {u : Value} {b : Option (Nat × Nat)} {m : Nat} {cs : List C} {obl : List Prop} (hu : VRep T w S st.r bx ph u V)
    (hp : appNews (std P T) st e (szOf T e) b V = some (m, cs, obl)) (ho : ∀ p ∈ obl, p) (hz : szOf T e ≠ 0) :
    ∃ news : List Value, news.length = m * szOf T e ∧ news.length = cs.length ∧ (∀ k (h : k < cs.length) (h2 : k < news.length), CRep w S news[k] cs[k]) ∧ ((m = 0 ∧ ∃ aa c, u = .slice aa 0 c) ∨ Src w u m news) := by
  have own : ∀ t o n cells e', (st.r.getD t .none).row[o]? = some (.own e' n cells) → e = e' → ∃ xs : List Value, w.ownsRow 0 e (szOf T e) (ph t o) n xs ∧ xs.length = cells.length ∧ ∀ k (h : k < cells.length) (h2 : k < xs.length), CRep w S xs[k] cells[k] := fun t o n cells e' hc he => by
    subst he; exact h.cell hc
  unfold appNews at hp
  split at hp
  · cases hp
    rw [crep_nil hu]
    exact ⟨[], by simp, rfl, fun k hk => absurd hk (by simp), .inl ⟨rfl, _, _, rfl⟩⟩
  · rename_i m' cs'
    cases hp
    have h1 : mulSz (std P T) m (szOf T e) ≤ cs.length := ho _ (List.mem_cons_self ..)
    have h2 : cs.length ≤ mulSz (std P T) m (szOf T e) := ho _ (List.mem_cons_of_mem _ (List.mem_cons_self ..))
    rw [mulSz_std] at h1 h2
    have hu' : CRep w S u (.sl m cs) := hu
    cases hu' with
    | sl0 => exact ⟨[], by simp, rfl, fun k hk => absurd hk (by simp), .inl ⟨rfl, _, _, rfl⟩⟩
    | sl vs hs hn hc hr =>
      refine ⟨(List.range cs.length).map vs, by simp; omega, by simp, fun k hk hk2 => by simpa using hr k hk, .inr (.inr ⟨_, _, rfl, fun j x hj => ?_⟩)⟩
      have hj' : j < cs.length := by have := (List.getElem?_eq_some_iff.1 hj).1; simpa using this
      rw [Addr.add_lit]
      rw [hc j hj']
      simp [hj'] at hj
      rw [hj]
  · rename_i t o
    split at hp
    · rename_i e' n' cells' hown
      split at hp
      · rename_i hc
        cases hp
        have hc2 := ownAt_eq hown
        obtain ⟨_, _, _, _, rfl⟩ := hu
        obtain ⟨xs, x1, x2, x3⟩ := own t o _ _ _ hc2 hc.1
        exact ⟨xs, x1.1, x2, x3, .inr (Src.of_owns x1)⟩
      · cases hp
    · cases hp
  · rename_i t o lo hi
    split at hp
    · rename_i e' n' cells' hown
      split at hp
      · rename_i hc
        cases hp
        have hc2 := ownAt_eq hown
        obtain ⟨e'', n'', cells'', aa, cap, a', h1, h2, h3, h4, rfl, h6, h7⟩ := hu
        rw [hc2] at h1; cases h1
        obtain ⟨xs, x1, x2, x3⟩ := own t o _ _ _ hc2 hc.1
        have e1 : (if lo = 0 then hi else (std P T).sub hi lo) = hi - lo := by
          split
          · omega
          · rfl
        rw [e1, mulSz_std, mulSz_std]
        have hlx : xs.length = n' * szOf T e := x1.1
        have hle : hi * szOf T e ≤ n' * szOf T e := Nat.mul_le_mul_right _ h4
        have hle2 : lo * szOf T e ≤ hi * szOf T e := Nat.mul_le_mul_right _ h3
        refine ⟨(xs.take (hi * szOf T e)).drop (lo * szOf T e), ?_, ?_, fun k hk hk2 => ?_, ?_⟩
        · rw [List.length_drop, List.length_take, Nat.sub_mul]; omega
        · show _ = (extC cells' (lo * szOf T e) (hi * szOf T e)).length
          simp [extC, x2]
        · obtain ⟨q1, q2⟩ := extC_get hk
          show CRep w S _ (extC cells' (lo * szOf T e) (hi * szOf T e))[k]
          rw [q2, List.getElem_drop, List.getElem_take]
          exact x3 _ _ _
        · by_cases hlt : lo < hi
          · obtain ⟨g, rfl, rfl⟩ := h7 hlt
            right; right
            refine ⟨_, _, rfl, fun j x hj => ?_⟩
            rw [h2] at x1
            have hcell := World.ownsRow.cells x1 (g := g) rfl (lo * szOf T e + j) x (by
              rw [List.getElem?_drop, List.getElem?_take] at hj
              split at hj
              · exact hj
              · cases hj)
            rw [Addr.add_lit] at hcell ⊢
            rw [Nat.zero_add] at hcell
            rw [← hc.1]
            exact hcell
          · left
            have e0 : hi - lo = 0 := by omega
            exact ⟨e0, _, _, by rw [e0]⟩
      · cases hp
    · cases hp
  · cases hp
end Go.Proofs.Ytcpcghnpoekhpaa.A
/- The ghost machine, part 18: append and stores. -/
set_option linter.unusedSimpArgs false
set_option linter.unusedVariables false
set_option maxRecDepth 100000
set_option maxHeartbeats 4000000
namespace Go.Proofs.Ytcpcghnpoekhpaa.A
open Go Go.RowKit
variable {P : Program} {T : TT} {w w' w0 : World} {S S0 : Nat → Prop} {F : Fr} {bx : Nat → Nat} {ph : Nat → Nat → Pv} {a : Act} {st st' : St}
theorem append_sound (hT : TOk P T) (h : Rel T w0 S0 F st a w S bx ph) (hsp : st.r.getD st.s.length .none = .none) {t ty : TypeId} {U V : V} {u v : Value} {vf : Nat → A.V} {st1 : St} {obl : List Prop}
    (hv : VRep T w S st.r bx ph v V) (hu : VRep T w S st.r bx ph u U) (hp : appOp T (std P T) st t V U = some (vf, st1, obl)) (ho : ∀ p ∈ obl, p) {dst : Option Nat} (hdst : ∀ k, dst = some k → k < st.s.length) :
    ∃ z w', (Builtin.append_ #[t, t] ty #[v, u]).run P w = .ok z w' ∧ Rels T w0 S0 F (fin st1 dst vf) (a.put dst z) w' ∧ ((∃ c, V = .one (.c c)) → Old w w') := by
  unfold appOp at hp
  split at hp
  · rename_i ti hti
    split at hp
    · rename_i e hde
      split at hp
      · rename_i te hte
        have ud : P.underlying t = some (.slice e) := by rw [(hT t ti hti).1, hde]
        obtain ⟨_, ie, hie, his, hib, hiz, hzc⟩ := hT e te hte
        have hsz : szOf T e = te.size := by simp [szOf, hte]
        split at hp
        · rename_i b n cells hb
          split at hp
          · rename_i m cs obl' hn
            split at hp
            · cases hp
            · rename_i hnz
              have hz : te.size ≠ 0 := fun h => hnz (.inl h)
              have hby : te.bytes ≠ 0 := fun h => hnz (.inr h)
              rw [← hsz] at hb hn
              simp only [Option.some.injEq, Prod.mk.injEq] at hp
              obtain ⟨rfl, rfl, rfl⟩ := hp
              obtain ⟨xs, b1, b2, b3, b4, b5⟩ := base_sound h.heap hv hb
              obtain ⟨news, n1, n2, n3, n4⟩ := news_sound h.heap hu hn (fun p hp => ho p (List.mem_cons_of_mem _ hp)) (by rw [hsz]; exact hz)
              have hbytes : (n + m) * te.bytes ≤ 140737488355328 := by
                have : plus (std P T) n m * te.bytes ≤ 140737488355328 := ho _ (List.mem_cons_self ..)
                rwa [plus_std] at this
              have hmax : n + m ≤ maxLen := by
                have : n + m ≤ (n + m) * te.bytes := Nat.le_mul_of_pos_right _ (by omega)
                unfold maxLen; omega
              have hrun : ∃ z w', (Builtin.append_ #[t, t] ty #[v, u]).run P w = .ok z w' ∧ w'.ownsRow 0 e (szOf T e) z (n + m) (xs ++ news) ∧ w.grownBy w' v.ownBlock ∧ (z.ownBlock = v.ownBlock ∨ z.ownBlock = some w.heap.size) := by
                have hs1 : te.zero.cells.size = szOf T e := by rw [hzc, hsz]
                rcases n4 with ⟨rfl, aa, c, rfl⟩ | hsrc
                · have : news = [] := List.eq_nil_of_length_eq_zero (by rw [n1]; simp)
                  subst this
                  exact ⟨v, w, run_append_empty hT ud hte b1 aa c, by simpa using b1, World.grownBy.refl _ _, .inl rfl⟩
                · obtain ⟨z, w', r1, r2, _, r3, r4, _⟩ := run_append_src (P := P) w t ty 0 e ie te.zero (szOf T e) te.bytes ud hie hiz (by rw [his, hsz]) hib hs1 (by omega) v n xs b1 u m news n1 hsrc (fun u' hu' => by
                    obtain ⟨k, hk, rfl⟩ := List.mem_iff_getElem.1 hu'
                    exact crep_one (n3 k (by omega) hk)) hmax hbytes (Nat.zero_le _)
                  exact ⟨z, w', r1, r2, r3, r4⟩
              obtain ⟨z, w', r1, r2, r3, r4⟩ := hrun
              have hcg : Chg (fun b => v.ownBlock = some b) w w' := Chg.of_grown r3
              have hzb : ∀ g, z.ownBlock = some g → g < w'.heap.size ∧ (w.heap.size ≤ g ∨ v.ownBlock = some g) := fun g hg => by
                refine ⟨(r2.lt g hg).2, ?_⟩
                rcases r4 with r4 | r4
                · exact .inr (r4 ▸ hg)
                · rw [hg] at r4; cases r4; exact .inl (Nat.le_refl _)
              have hvS : ∀ g, v.ownBlock = some g → ¬ S g := fun g hg hs => by
                cases b with
                | none => rw [(b4 rfl).1] at hg; cases hg
                | some q => exact (h.heap.free _ _ g ((b5 q.1 q.2 rfl).2 g hg)).1 hs
              have hstab : ∀ {x : Value} {c : C}, CRep w S x c → CRep w' S x c := fun hx => hx.frame (fun g hg => r3.block g (h.heap.low.1 g hg) (fun hh => hvS g hh.symm hg)) fun _ h => h
              have hrc : RCRep T w' S (.of z) (.own e (plus (std P T) n m) (match b with | none => cs | some _ => (std P T).app cells cs)) := by
                rw [plus_std]
                cases b with
                | none =>
                  obtain ⟨_, _, b43⟩ := b4 rfl
                  have hx0 : xs = [] := List.eq_nil_of_length_eq_zero (by rw [b2, b43]; rfl)
                  refine ⟨xs ++ news, r2, by rw [hx0]; exact n2, fun k q1 q2 => ?_⟩
                  subst hx0
                  exact hstab (n3 k q1 (by simpa using q2))
                | some q =>
                  refine ⟨xs ++ news, r2, by rw [List.length_append, b2, n2]; exact (List.length_append ..).symm, fun k q1 q2 => ?_⟩
                  have hk1 : k < (cells ++ cs).length := q1
                  show CRep w' S (xs ++ news)[k] ((cells ++ cs)[k]'hk1)
                  by_cases hk : k < xs.length
                  · have hkc : k < cells.length := by omega
                    have e1 : (cells ++ cs)[k]'hk1 = cells[k] := List.getElem_append_left hkc
                    rw [List.getElem_append_left hk, e1]
                    exact hstab (b3 k (by omega) hk)
                  · have hk' : xs.length ≤ k := by omega
                    have hkc : cells.length ≤ k := by omega
                    have hk2 : k - cells.length < cs.length := by rw [List.length_append] at hk1; omega
                    have e1 : (cells ++ cs)[k]'hk1 = cs[k - cells.length] := List.getElem_append_right hkc
                    rw [List.getElem_append_right hk', e1]
                    have := n3 (k - cells.length) hk2 (by omega)
                    simp only [b2]
                    exact hstab this
              cases b with
              | none =>
                have hvn := (b4 rfl).1
                have hcF : Chg (fun _ => False) w w' := hcg.mono (fun k _ hk => by rw [hvn] at hk; cases hk)
                refine ⟨z, w', r1, ?_, fun _ g hg => hcF.block g hg (fun hf => hf)⟩
                exact own_fin h hsp hcF (fun _ _ hf => hf.elim) hrc (fun g hg => ⟨(hzb g hg).1, by
                  rcases (hzb g hg).2 with h1 | h1
                  · exact .inl h1
                  · rw [hvn] at h1; cases h1⟩) hdst
              | some q =>
                obtain ⟨t1, o1⟩ := q
                obtain ⟨q1, q2⟩ := b5 t1 o1 rfl
                refine ⟨z, w', r1, ?_, fun ⟨c, hc⟩ => ?_⟩
                · have hdead := dead_sound h t1 o1
                  have hlen : (kill (ofCell t1 o1) st.s).length = st.s.length := by simp [kill]
                  have := own_fin hdead (by
                    show (setCellR st.r t1 o1 .dead).getD (kill (ofCell t1 o1) st.s).length .none = .none
                    rw [hlen, getD_setCell, if_neg q1]; exact hsp) hcg (fun g _ hg => ?_) hrc hzb (dst := dst) (fun k hk => by
                    show k < (kill (ofCell t1 o1) st.s).length
                    rw [hlen]; exact hdst k hk)
                  · rw [show ({ s := kill (ofCell t1 o1) st.s, r := setCellR st.r t1 o1 .dead } : St).s.length = st.s.length from hlen] at this
                    exact this
                  · have hog := q2 g hg
                    refine ⟨(h.heap.free _ _ g hog).1, fun t' κ' ho' => ?_, h.mine _ _ g hog⟩
                    obtain ⟨h1, h2⟩ := owns_dead ho'
                    exact h2 (h.heap.inj _ _ _ _ g h1 hog)
                · subst hc
                  unfold appBase at hb
                  split at hb
                  · cases hb
                  · rename_i heq; cases heq
                  · rename_i heq; cases heq
                  · cases hb
          · cases hp
        · cases hp
      · cases hp
    · cases hp
  · cases hp
end Go.Proofs.Ytcpcghnpoekhpaa.A
/- The ghost machine, part 19: stores. -/
set_option linter.unusedSimpArgs false
set_option linter.unusedVariables false
set_option maxRecDepth 100000
set_option maxHeartbeats 4000000
namespace Go.Proofs.Ytcpcghnpoekhpaa.A
open Go Go.RowKit
variable {P : Program} {T : TT} {w w' w0 : World} {S S0 : Nat → Prop} {F : Fr} {bx : Nat → Nat} {ph : Nat → Nat → Pv} {a : Act} {st st' : St}
theorem run_store_at (hT : TOk P T) {t : TypeId} {ti : TI} (ht : T t = some ti) {g o : Nat} {e : TypeId} {cur : Array Value} {x : Value} (hg : w.heap[g]? = some (.cells cur e (0, 0))) (hx : x.cells.size = ti.size) (hle : o + ti.size ≤ cur.size) (h1 : ∀ v ∈ x.cells.toList, v.oneCell' = true) :
  (Instr.storeAt t (.pointer (some ⟨g, o, none⟩)) x).run P w = .ok () (w.setRow g (cur.toList.take o ++ x.cells.toList ++ cur.toList.drop (o + ti.size)).toArray) := by
 have hc := run_storeCells_at (P := P) g o e x.cells.toList 0 cur w hg (by rw [Nat.add_zero, Array.length_toList, hx]; exact hle) h1
 simp only [Nat.add_zero, Array.length_toList, hx] at hc
 have hsz := run_sizeOf hT ht w
 simp only [Instr.storeAt, Instr.sureAddr, storeVar, Sem.run_bind, Sem.run_pure, Result.andThen_ok, hsz, hx, ne_eq, not_true_eq_false, if_false]
 exact hc
theorem chg_setRow (g : Nat) (cs : Array Value) : Chg (fun b => b = g) w (w.setRow g cs) :=
 ⟨rfl, rfl, rfl, by simp [World.setRow], fun k _ hk => setRow_other w g k cs hk⟩
theorem xs_one (h : Heap T w S st.r bx ph) {vs : Array Value} {xs : List X} (hx : XsRep T w S st.r bx ph vs xs) (hnu : ∀ x ∈ xs, x ≠ .undef) : ∀ v ∈ vs.toList, v.oneCell' = true := by
 intro v hv
 obtain ⟨k, hk, rfl⟩ := List.mem_iff_getElem.1 hv
 have hk2 : k < vs.size := by simpa using hk
 have hk1 : k < xs.length := by rw [← hx.1]; exact hk2
 have h1 := hx.2 k hk1 hk2
 have hne := hnu xs[k] (List.getElem_mem hk1)
 simp only [Array.getElem_toList]
 revert h1 hne
 generalize xs[k] = x
 generalize vs[k] = u
 intro h1 hne
 cases x with
 | c c => exact crep_one h1
 | mv t o =>
  obtain ⟨kk, m, q1, rfl⟩ := h1
  obtain ⟨b, q, _⟩ := h.cell q1
  rw [q]; rfl
 | view t o =>
  obtain ⟨e, n, cells, q1, rfl⟩ := h1
  rcases own_form (h.cell q1) with ⟨q, _⟩ | ⟨g, cap, q, _⟩ <;> (rw [q]; rfl)
 | sub t o lo hi => obtain ⟨_, _, _, _, _, _, _, _, _, _, rfl, _⟩ := h1; rfl
 | ptr t o => obtain ⟨_, _, _, rfl⟩ := h1; rfl
 | eptr t o k => obtain ⟨_, _, _, _, _, _, _, rfl⟩ := h1; rfl
 | mem cells off => obtain ⟨_, _, _, rfl, _⟩ := h1; rfl
 | fn f caps => obtain ⟨rfl, _⟩ := h1; rfl
 | bfn f t => obtain ⟨_, rfl⟩ := h1; rfl
 | tv t o p => obtain ⟨_, _, _, rfl⟩ := tv_slice h h1; rfl
 | tp t o p k off => obtain ⟨_, _, _, _, _, _, _, _, _, _, _, _, _, _, _, _, rfl⟩ := h1; rfl
 | undef => exact absurd rfl hne
theorem stab_nu {r : List Root} {xs : List X} {cs : List C} (h : optAll (xs.map (stab T (std P T) r)) = some cs) : ∀ x ∈ xs, x ≠ .undef := by
 intro x hx he
 subst he
 have h1 := optAll_some _ _ h
 have : (none : Option C) ∈ cs.map some := by
  rw [← h1]; exact List.mem_map.2 ⟨.undef, hx, rfl⟩
 simp at this
theorem push_nu : ∀ (xs : List X) (st st' : St), pushAll T (std P T) st xs = some st' → ∀ x ∈ xs, x ≠ .undef := by
 intro xs
 induction xs with
 | nil => intro st st' _ x hx; cases hx
 | cons y ys ih =>
  intro st st' h x hx he
  subst he
  unfold pushAll at h
  split at h
  ·cases h
  ·split at h
   ·rename_i st1 h1
    rcases List.mem_cons.1 hx with rfl | hx
    ·cases h1
    ·exact ih st1 st' h _ hx rfl
   ·cases h
theorem Heap.write (h : Heap T w S st.r bx ph) {t' g : Nat} {κ : Option Nat} (hg : owns st.r bx ph t' κ g) (hc : Chg (fun b => b = g) w w') :
  (∀ b, S b → w'.heap[b]? = w.heap[b]?) ∧ (∀ t κ' b, owns st.r bx ph t κ' b → b ≠ g → w'.heap[b]? = w.heap[b]?) ∧ ∀ u, u ≠ t' → RootRep T w' S (bx u) (ph u) (st.r.getD u .none) := by
 have hS : ∀ b, S b → w'.heap[b]? = w.heap[b]? := fun b hb => hc.block b (h.low.1 b hb) fun e => by subst e; exact (h.free _ _ _ hg).1 hb
 have hO : ∀ t κ' b, owns st.r bx ph t κ' b → b ≠ g → w'.heap[b]? = w.heap[b]? := fun t κ' b hb hne => hc.block b (h.free _ _ _ hb).2 hne
 refine ⟨hS, hO, fun u hu => ?_⟩
 have hr := h.root u
 have hne : ∀ κ' b, owns st.r bx ph u κ' b → b ≠ g := fun κ' b hb e => by subst e; exact hu (h.inj _ _ _ _ _ hb hg).1
 have hcell : ∀ o (ho : o < (st.r.getD u .none).row.length), RCRep T w S (ph u o) (st.r.getD u .none).row[o] → RCRep T w' S (ph u o) (st.r.getD u .none).row[o] := fun o ho hrc =>
  hrc.frame hS (fun _ h => h) fun b hb => by
   have : owns st.r bx ph u (some o) b := by
    unfold owns ownOf
    dsimp only
    rw [List.getElem?_eq_getElem ho]
    revert hb
    cases (st.r.getD u .none).row[o] <;> intro hb <;> first | exact hb | cases hb
   exact hO u (some o) b this (hne _ b this)
 cases hR : st.r.getD u .none with
 | none => trivial
 | box row =>
  rw [hR] at hr hcell
  obtain ⟨⟨arr, e, h1, h2⟩, h3⟩ := hr
  have hob : owns st.r bx ph u none (bx u) := owns_of_box hR
  exact ⟨⟨arr, e, (hO u none _ hob (hne _ _ hob)).trans h1, h2⟩, fun o ho => hcell o ho (h3.1 o ho), h3.2⟩
 | loose row =>
  rw [hR] at hr hcell
  exact fun o ho => hcell o ho (hr o ho)
theorem chg_mine (h : Rel T w0 S0 F st a w S bx ph) {t' g : Nat} {κ : Option Nat} (hg : owns st.r bx ph t' κ g) (hc : Chg (fun b => b = g) w w') : Chg F.on w0 w' := by
 refine ⟨hc.os.trans h.chg.os, hc.tape.trans h.chg.tape, hc.output.trans h.chg.output, Nat.le_trans h.chg.size hc.size, fun b hb hF => ?_⟩
 rw [hc.block b (Nat.lt_of_lt_of_le hb h.chg.size) fun e => by
  subst e
  rcases h.mine _ _ _ hg with h1 | h1
  ·omega
  ·exact hF h1]
 exact h.chg.block b hb hF
theorem spl_get {α : Type} {l us : List α} {k m : Nat} (hm : us.length = m) (h : k + m ≤ l.length) (j : Nat) : (l.take k ++ us ++ l.drop (k + m))[j]? = if k ≤ j ∧ j < k + m then us[j - k]? else l[j]? := by
 subst hm
 have hk : (l.take k).length = k := by rw [List.length_take]; omega
 have hk2 : (l.take k ++ us).length = k + us.length := by rw [List.length_append, hk]
 by_cases h1 : j < k
 ·rw [if_neg (by omega), List.getElem?_append_left (by omega), List.getElem?_append_left (by omega), List.getElem?_take, if_pos h1]
 ·by_cases h2 : j < k + us.length
  ·rw [if_pos ⟨by omega, h2⟩, List.getElem?_append_left (by omega), List.getElem?_append_right (by omega), hk]
  ·rw [if_neg (by omega), List.getElem?_append_right (by omega), hk2, List.getElem?_drop]
   congr 1; omega
theorem spl_length {α : Type} {l us : List α} {k m : Nat} (hm : us.length = m) (h : k + m ≤ l.length) : (l.take k ++ us ++ l.drop (k + m)).length = l.length := by
 simp only [List.length_append, List.length_take, List.length_drop]; omega
theorem get_of {α : Type} {l : List α} {j : Nat} (h : j < l.length) {v : α} (e : l[j]? = some v) : l[j] = v := by
 rw [List.getElem?_eq_getElem h] at e; exact Option.some.inj e
theorem XRep.congr2 {r r' : List Root} {v : Value} {x : X} (h : XRep T w S r bx ph v x)
  (hv : ∀ (t o : Nat) (e : TypeId) (n : Nat) (cells : List C), (r.getD t .none).row[o]? = some (RC.own e n cells) → ∃ cells' : List C, (r'.getD t .none).row[o]? = some (RC.own e n cells'))
  (hm : ∀ (t o : Nat) (kk : KK) (m : GM), (r.getD t .none).row[o]? = some (RC.map kk m) → ∃ kk' m', (r'.getD t .none).row[o]? = some (RC.map kk' m'))
  (ht : ∀ (t o : Nat) (sh : Sh) (c : C) (p : Option Path), (r.getD t .none).row[o]? = some (RC.tree sh c p) → ∃ c' p', (r'.getD t .none).row[o]? = some (RC.tree sh c' p'))
  (hp : ∀ (t : Nat) (row : List RC), r.getD t .none = .box row → ∃ row' : List RC, r'.getD t .none = .box row' ∧ row'.length = row.length) : XRep T w S r' bx ph v x := by
 cases x with
 | c c => exact h
 | mv t o =>
  obtain ⟨kk, m, h1, h2⟩ := h
  obtain ⟨kk', m', h3⟩ := hm t o kk m h1
  exact ⟨kk', m', h3, h2⟩
 | view t o =>
  obtain ⟨e, n, cells, h1, h2⟩ := h
  obtain ⟨cells', h3⟩ := hv t o e n cells h1
  exact ⟨e, n, cells', h3, h2⟩
 | sub t o lo hi =>
  obtain ⟨e, n, cells, aa, cap, a', h1, h2⟩ := h
  obtain ⟨cells', h3⟩ := hv t o e n cells h1
  exact ⟨e, n, cells', aa, cap, a', h3, h2⟩
 | ptr t o =>
  obtain ⟨row, h1, h2, h3⟩ := h
  obtain ⟨row', a, b⟩ := hp t row h1
  exact ⟨row', a, by omega, h3⟩
 | eptr t o k =>
  obtain ⟨e, n, cells, g, cap, h1, h2⟩ := h
  obtain ⟨cells', h3⟩ := hv t o e n cells h1
  exact ⟨e, n, cells', g, cap, h3, h2⟩
 | tv t o p =>
  obtain ⟨sh, c, hh, q, h1, h2⟩ := h
  obtain ⟨c', p', h3⟩ := ht t o sh c hh h1
  exact ⟨sh, c', p', q, h3, h2⟩
 | tp t o p k off =>
  obtain ⟨sh, c, hh, q, e, ks, g, n, cap, h1, h2⟩ := h
  obtain ⟨c', p', h3⟩ := ht t o sh c hh h1
  exact ⟨sh, c', p', q, e, ks, g, n, cap, h3, h2⟩
 | mem cells off => exact h
 | fn f caps =>
  obtain ⟨h1, h2⟩ := h
  exact ⟨h1, fun t ht => by
   obtain ⟨row, a, b⟩ := h2 t ht
   obtain ⟨row', a', b'⟩ := hp t row a
   exact ⟨row', a', by omega⟩⟩
 | bfn f t =>
  obtain ⟨⟨row, a, b⟩, h2⟩ := h
  obtain ⟨row', a', b'⟩ := hp t row a
  exact ⟨⟨row', a', by omega⟩, h2⟩
 | undef => trivial
theorem cell_write {S' : Nat → Prop} {st1 : St} (hf : Rel T w0 S0 F st1 a w S' bx ph) {t' o g : Nat} {rc rc' : RC} (hc : (st1.r.getD t' .none).row[o]? = some rc) (hb : rc'.blk (ph t' o) = rc.blk (ph t' o))
    (k1 : ∀ e n cells, rc = .own e n cells → ∃ cells', rc' = .own e n cells') (k2 : ∀ kk m, rc = .map kk m → ∃ kk' m', rc' = .map kk' m') (k3 : ∀ sh c p, rc = .tree sh c p → ∃ c' p', rc' = .tree sh c' p') (hog : owns st1.r bx ph t' (some o) g) (hcg : Chg (fun b => b = g) w w') (hnew : RCRep T w' S' (ph t' o) rc') :
    Rel T w0 S0 F { st1 with r := setCellR st1.r t' o rc' } a w' S' bx ph := by
  obtain ⟨hS, hO, hR⟩ := hf.heap.write hog hcg
  have hme : rc'.isMe = false := by
    obtain ⟨rc2, m1, m2⟩ := owns_cell hog
    rw [hc] at m1; cases m1
    rw [← hb] at m2
    cases rc' <;> first | rfl | exact m2.elim
  have hin : o < (st1.r.getD t' .none).row.length := (List.getElem?_eq_some_iff.1 hc).1
  have hown' : ∀ t κ b, owns (setCellR st1.r t' o rc') bx ph t κ b → owns st1.r bx ph t κ b := fun t κ b hb' => by
    cases κ with
    | none =>
      obtain ⟨row, h1, rfl⟩ := owns_box hb'
      rw [getD_setCell] at h1
      split at h1
      · rename_i e1; subst e1
        cases hR : st1.r.getD t' .none with
        | box row' => exact owns_of_box hR
        | none => rw [hR] at h1; cases h1
        | loose row' => rw [hR] at h1; cases h1
      · exact owns_of_box h1
    | some p =>
      obtain ⟨rc1, h1, h2⟩ := owns_cell hb'
      rw [row_setCell] at h1
      split at h1
      · rename_i e2; subst e2
        rw [List.getElem?_set] at h1
        split at h1
        · rename_i e3; subst e3
          cases h1
          exact own_blk hc (by rw [← hb]; exact h2)
        · exact own_blk h1 h2
      · exact own_blk h1 h2
  refine ⟨hf.size, ⟨by rw [length_setCell]; exact hf.rsize.1, hf.rsize.2⟩, hf.defers, ⟨fun u => ?_, fun t κ t2 κ2 b h1 h2 => hf.heap.inj _ _ _ _ b (hown' _ _ _ h1) (hown' _ _ _ h2), fun t κ b h1 => ?_, ⟨fun b hb => Nat.lt_of_lt_of_le (hf.heap.low.1 b hb) hcg.size, hf.heap.low.2.frame hS (fun _ h => h)⟩⟩,
    fun t κ b h1 => hf.mine _ _ _ (hown' _ _ _ h1), fun i hi => (hf.slot i hi).mono fun v y hy => ?_, hf.keep, hf.new, chg_mine hf hog hcg⟩
  · rw [getD_setCell]
    by_cases e1 : t' = u
    · subst e1
      rw [if_pos rfl]
      have hcells : ∀ p (hp : p < (st1.r.getD t' .none).row.length), p ≠ o → RCRep T w' S' (ph t' p) (st1.r.getD t' .none).row[p] := fun p hp hne => by
        have hcp : (st1.r.getD t' .none).row[p]? = some (st1.r.getD t' .none).row[p] := List.getElem?_eq_getElem hp
        refine (hf.heap.cell hcp).frame hS (fun _ h => h) fun b hb => ?_
        have hob : owns st1.r bx ph t' (some p) b := own_blk hcp hb
        exact hO _ _ b hob fun e1 => hne (by
          subst e1
          have := (hf.heap.inj _ _ _ _ _ hob hog).2
          simpa using this)
      have key : ∀ row : List RC, (st1.r.getD t' .none).row = row → ∀ p (hp : p < (row.set o rc').length), RCRep T w' S' (ph t' p) (row.set o rc')[p] := fun row hrow p hp => by
        subst hrow
        rw [List.getElem_set]
        split
        · rename_i e1; subst e1; exact hnew
        · rename_i e1; exact hcells p (by simpa using hp) fun e2 => e1 e2.symm
      have hr := hf.heap.root t'
      cases hR : st1.r.getD t' .none with
      | none => trivial
      | box row =>
        rw [hR] at hr key
        obtain ⟨⟨arr, e2, h1, h2, h3⟩, _, h4⟩ := hr
        have hob : owns st1.r bx ph t' none (bx t') := owns_of_box hR
        refine ⟨⟨arr, e2, (hO _ _ _ hob (fun e3 => by
          rw [e3] at hob
          have := (hf.heap.inj _ _ _ _ _ hob hog).2
          cases this)).trans h1, by simp [h2, Root.row], fun p hp => h3 p (by simpa [Root.row] using hp)⟩, key row rfl, fun p f hp => ?_⟩
        have hp' : (row.set o rc')[p]? = some (.me f) := hp
        rw [List.getElem?_set] at hp'
        split at hp'
        · split at hp'
          · cases hp'; exact absurd hme (by simp [RC.isMe])
          · cases hp'
        · exact h4 p f hp'
      | loose row => rw [hR] at key; exact key row rfl
    · rw [if_neg e1]
      exact hR u (fun e2 => e1 e2.symm)
  · have := hf.heap.free _ _ _ (hown' _ _ _ h1)
    exact ⟨this.1, Nat.lt_of_lt_of_le this.2 hcg.size⟩
  · have hy' := hy.frame (w' := w') hS (fun _ h => h)
    have key : ∀ t2 o2 rc2, (st1.r.getD t2 .none).row[o2]? = some rc2 → ((setCellR st1.r t' o rc').getD t2 .none).row[o2]? = some rc2 ∨ (rc2 = rc ∧ ((setCellR st1.r t' o rc').getD t2 .none).row[o2]? = some rc') := fun t2 o2 rc2 h1 => by
      rw [row_setCell]
      split
      · rename_i e3; subst e3
        rw [List.getElem?_set]
        split
        · rename_i e4; subst e4
          rw [hc] at h1; cases h1
          exact .inr ⟨rfl, rfl⟩
        · exact .inl h1
      · exact .inl h1
    refine hy'.congr2 (fun t2 o2 e2 n2 c2 h1 => ?_) (fun t2 o2 kk m h1 => ?_) (fun t2 o2 sh2 c2 p2 h1 => ?_) (fun t2 row h1 => box_setCell h1)
    · rcases key t2 o2 _ h1 with h2 | ⟨h3, h2⟩
      · exact ⟨_, h2⟩
      · obtain ⟨cells', rfl⟩ := k1 _ _ _ h3.symm
        exact ⟨cells', h2⟩
    · rcases key t2 o2 _ h1 with h2 | ⟨h3, h2⟩
      · exact ⟨_, _, h2⟩
      · obtain ⟨kk', m', rfl⟩ := k2 _ _ h3.symm
        exact ⟨kk', m', h2⟩
    · rcases key t2 o2 _ h1 with h2 | ⟨h3, h2⟩
      · exact ⟨_, _, h2⟩
      · obtain ⟨c', p', rfl⟩ := k3 _ _ _ h3.symm
        exact ⟨c', p', h2⟩
theorem eptr_store_sound (hT : TOk P T) (h : Rel T w0 S0 F st a w S bx ph) {t : TypeId} {ti : TI} (ht : T t = some ti) {t' o k : Nat} {x u : Value} {xs : List X} {cs : List C} {e : TypeId} {n : Nat} {cells : List C}
  (hu : XRep T w S st.r bx ph u (.eptr t' o k)) (hx : XsRep T w S st.r bx ph x.cells xs) (hxl : xs.length = ti.size) (hcs : optAll (xs.map (stab T (std P T) st.r)) = some cs)
  (hown : ownAt (xs.foldl (freezeX T (std P T)) st).r t' o = some (e, n, cells)) (hle : k + ti.size ≤ cells.length) :
  ∃ w', (Instr.storeAt t u x).run P w = .ok () w' ∧ ∃ S', Rel T w0 S0 F { (xs.foldl (freezeX T (std P T)) st) with r := setCellR (xs.foldl (freezeX T (std P T)) st).r t' o (.own e n (setC cells k cs)) } a w' S' bx ph := by
 obtain ⟨S', hf, hcl, hcr⟩ := stab_all (P := P) h (vs := x.cells.toList) (by rw [Array.length_toList]; exact hx.1) (fun i h1 h2 => by simpa using hx.2 i h1 (by simpa using h2)) hcs
 generalize (xs.foldl (freezeX T (std P T)) st) = st1 at *
 have hc := ownAt_eq hown
 obtain ⟨e0, n0, cells0, g, cap, u1, u2, rfl⟩ := hu
 obtain ⟨ys, y1, y2, y3⟩ := hf.rel.heap.cell hc
 rw [u2] at y1
 have hog : owns st1.r bx ph t' (some o) g := own_blk hc (by show (ph t' o).v.ownBlock = some g; rw [u2]; rfl)
 obtain ⟨y10, y11⟩ := y1
 rcases y11 with ⟨hv, _⟩ | ⟨g', cap', cur, hv, _, hheap, hn, hm, hs, htk⟩
 ·cases hv
 ·cases hv
  have hcur : cells.length ≤ cur.size := by
   rw [← y2, y10, hs]; exact Nat.mul_le_mul_right _ hn
  have hxs : x.cells.size = ti.size := by rw [hx.1, hxl]
  have hfit : k + ti.size ≤ cur.size := by omega
  have hrun := run_store_at (P := P) hT ht hheap hxs hfit (xs_one h.heap hx (stab_nu hcs))
  have hcg := chg_setRow (w := w) g (cur.toList.take k ++ x.cells.toList ++ cur.toList.drop (k + ti.size)).toArray
  refine ⟨_, hrun, S', ?_⟩
  generalize hw' : w.setRow g (cur.toList.take k ++ x.cells.toList ++ cur.toList.drop (k + ti.size)).toArray = w' at hcg
  obtain ⟨hS, hO, hR⟩ := hf.rel.heap.write hog hcg
  have hheap' : w'.heap[g]? = some (.cells (cur.toList.take k ++ x.cells.toList ++ cur.toList.drop (k + ti.size)).toArray e (0, 0)) := by
   rw [← hw']; exact setRow_heap w g cur _ e (0, 0) hheap
  have hcsl : cs.length = ti.size := by rw [hcl, Array.length_toList, hxs]
  have hnew : RCRep T w' S' (ph t' o) (.own e n (setC cells k cs)) := by
   have hxt : x.cells.toList.length = ti.size := by rw [Array.length_toList, hxs]
   have hnl : cells.length = n * szOf T e := by rw [← y2, y10]
   have hys : k + ti.size ≤ ys.length := by omega
   have hfit2 : k + ti.size ≤ cur.toList.length := by rw [Array.length_toList]; exact hfit
   have hset : setC cells k cs = cells.take k ++ cs ++ cells.drop (k + ti.size) := by unfold setC; rw [hcsl]
   have hlen1 : (setC cells k cs).length = cells.length := by rw [hset]; exact spl_length hcsl hle
   refine ⟨ys.take k ++ x.cells.toList ++ ys.drop (k + ti.size), ⟨?_, .inr ⟨g, cap, _, u2, Nat.zero_le _, hheap', hn, hm, ?_, ?_⟩⟩, ?_, fun j q1 q2 => ?_⟩
   ·rw [spl_length hxt hys, y10]
   ·rw [List.size_toArray, spl_length hxt hfit2, Array.length_toList, hs]
   ·apply List.ext_getElem?
    intro j
    rw [List.getElem?_take, List.toList_toArray, spl_get hxt hfit2, spl_get hxt hys, ← htk, List.getElem?_take]
    by_cases hj : j < n * szOf T e
    ·simp only [if_pos hj]
    ·simp only [if_neg hj]
     rw [if_neg (by omega)]
   ·rw [hlen1, spl_length hxt hys, y2]
   ·have fr : ∀ {v : Value} {c : C}, CRep w S' v c → CRep w' S' v c := fun hc => hc.frame hS fun _ h => h
    have q1' : j < cells.length := by omega
    have e1 := spl_get hxt hys j
    have e2 := spl_get hcsl hle j
    rw [← hset] at e2
    by_cases h1 : k ≤ j ∧ j < k + ti.size
    ·rw [if_pos h1, List.getElem?_eq_getElem (show j - k < x.cells.toList.length by omega)] at e1
     rw [if_pos h1, List.getElem?_eq_getElem (show j - k < cs.length by omega)] at e2
     rw [get_of q2 e1, get_of q1 e2]
     exact fr (hcr (j - k) (by omega) (by omega))
    ·rw [if_neg h1, List.getElem?_eq_getElem (show j < ys.length by omega)] at e1
     rw [if_neg h1, List.getElem?_eq_getElem q1'] at e2
     rw [get_of q2 e1, get_of q1 e2]
     exact fr (y3 j q1' (by omega))
  exact cell_write hf.rel hc rfl (fun e0 n0 c0 h0 => ⟨_, by cases h0; rfl⟩) (fun _ _ h0 => by cases h0) (fun _ _ _ h0 => by cases h0) hog hcg hnew
end Go.Proofs.Ytcpcghnpoekhpaa.A
/- The ghost machine, part 20: stores into boxes. -/
set_option linter.unusedSimpArgs false
set_option linter.unusedVariables false
set_option maxRecDepth 100000
set_option maxHeartbeats 4000000
namespace Go.Proofs.Ytcpcghnpoekhpaa.A
open Go Go.RowKit
variable {P : Program} {T : TT} {w w' w0 : World} {S S0 : Nat → Prop} {F : Fr} {bx : Nat → Nat} {ph : Nat → Nat → Pv} {a : Act} {st st' : St}
theorem ofCells_true {t o n u p : Nat} {x : X} (hc : ofCell u p x = true) (h : ofCells t o n x = false) : ¬ (u = t ∧ o ≤ p ∧ p < o + n) := by
 rintro ⟨rfl, h1, h2⟩
 rcases ofCell_cases hc with rfl | ⟨lo, hi, rfl⟩ | ⟨k, rfl⟩ | rfl | ⟨p, rfl⟩ | ⟨p, k, off, rfl⟩ <;> simp [ofCells, h1, h2] at h
theorem Heap.write_cell (h : Heap T w S st.r bx ph) {t' g : Nat} {κ : Option Nat} (hg : owns st.r bx ph t' κ g) (hc : Chg (fun b => b = g) w w') {u o : Nat} {rc : RC} (hr : (st.r.getD u .none).row[o]? = some rc) (hne : ¬ (u = t' ∧ some o = κ)) : RCRep T w' S (ph u o) rc := by
 obtain ⟨hS, hO, _⟩ := h.write hg hc
 refine (h.cell hr).frame hS (fun _ h => h) fun b hb => ?_
 have hob : owns st.r bx ph u (some o) b := by
  unfold owns ownOf
  dsimp only
  rw [hr]
  revert hb
  cases rc <;> intro hb <;> first | exact hb | cases hb
 exact hO _ _ b hob fun e => by
  subst e
  have := h.inj _ _ _ _ _ hob hg
  exact hne ⟨this.1, this.2⟩
theorem box_store_core (hT : TOk P T) {ph' : Nat → Nat → Pv} {st1 : St} (hrel : Rel T w0 S0 F st1 a w S bx ph') (hlen : st1.s.length = st.s.length) {t : TypeId} {ti : TI} (ht : T t = some ti) {t' o : Nat} {x u : Value} {rcs row : List RC} (r2 : (st1.r.getD st.s.length .none).row = rcs)
  (hrl : rcs.length = ti.size) (hxs : x.cells.size = ti.size) (hvals : ∀ k (hk : k < x.cells.toList.length), ph' st.s.length k = x.cells.toList[k]) (hone : ∀ v ∈ x.cells.toList, v.oneCell' = true) (hu : u = .pointer (some ⟨bx t', o, none⟩))
  (hrow : rootOf st1.r t' = .box row) (hle : o + ti.size ≤ row.length) (hne : t' ≠ st.s.length) (hme : ∀ k f, rcs[k]? = some (.me f) → meOk f (bx t') (ph' st.s.length k).v) :
  ∃ w', (Instr.storeAt t u x).run P w = .ok () w' ∧ Rels T w0 S0 F { s := kill (fun x => ofRoot st.s.length x || ofCells t' o ti.size x) st1.s, r := (st1.r.set t' (.box (row.take o ++ (rootOf st1.r st.s.length).row ++ row.drop (o + ti.size)))).set st.s.length .none } a w' := by
 have hrN : (rootOf st1.r st.s.length).row = rcs := r2
 rw [hrN]
 have hrow' : st1.r.getD t' .none = .box row := hrow
 subst hu
 have hN : st.s.length < st1.r.length := by have := hrel.rsize.1; rw [hlen] at this; omega
 have ht' : t' < st1.r.length := by
  rcases Nat.lt_or_ge t' st1.r.length with h1 | h1
  ·exact h1
  ·rw [List.getD_eq_getElem?_getD, List.getElem?_eq_none h1] at hrow'; cases hrow'
 have hob : owns st1.r bx ph' t' none (bx t') := owns_of_box hrow'
 have hroot := hrel.heap.root t'
 rw [hrow'] at hroot
 obtain ⟨⟨arr, e, h1, h2, h3⟩, h4, h5⟩ := hroot
 have hfit : o + ti.size ≤ arr.size := by omega
 have hrun := run_store_at (P := P) hT ht h1 hxs hfit hone
 have hcg := chg_setRow (w := w) (bx t') (arr.toList.take o ++ x.cells.toList ++ arr.toList.drop (o + ti.size)).toArray
 refine ⟨_, hrun, ?_⟩
 have hheap' : (w.setRow (bx t') (arr.toList.take o ++ x.cells.toList ++ arr.toList.drop (o + ti.size)).toArray).heap[bx t']? = some (.cells (arr.toList.take o ++ x.cells.toList ++ arr.toList.drop (o + ti.size)).toArray e (0, 0)) := setRow_heap w (bx t') arr _ e (0, 0) h1
 generalize w.setRow (bx t') (arr.toList.take o ++ x.cells.toList ++ arr.toList.drop (o + ti.size)).toArray = w' at hcg hheap'
 obtain ⟨hS, hO, hR⟩ := hrel.heap.write hob hcg
 have hxt : x.cells.toList.length = ti.size := by rw [Array.length_toList, hxs]
 have hfit2 : o + ti.size ≤ arr.toList.length := by rw [Array.length_toList]; exact hfit
 have hg : ∀ v, ((st1.r.set t' (.box (row.take o ++ rcs ++ row.drop (o + ti.size)))).set st.s.length .none).getD v .none = if v = st.s.length then .none else if v = t' then .box (row.take o ++ rcs ++ row.drop (o + ti.size)) else st1.r.getD v .none := fun v => by
  rw [getD_set, getD_set]
  simp only [List.length_set]
  by_cases e1 : v = st.s.length
  ·subst e1; simp [hN]
  ·rw [if_neg (fun hh => e1 hh.1.symm), if_neg e1]
   by_cases e2 : v = t'
   ·subst e2; rw [if_pos ⟨rfl, ht'⟩, if_pos rfl]
   ·rw [if_neg (fun hh => e2 hh.1.symm), if_neg e2]
 have hN1 : (st1.r.getD st.s.length .none).row = rcs := r2
 generalize hr2 : (st1.r.set t' (.box (row.take o ++ rcs ++ row.drop (o + ti.size)))).set st.s.length .none = r2 at hg
 have hgN : r2.getD st.s.length .none = .none := by rw [hg, if_pos rfl]
 have hgT : r2.getD t' .none = .box (row.take o ++ rcs ++ row.drop (o + ti.size)) := by rw [hg, if_neg hne, if_pos rfl]
 have hgO : ∀ v, v ≠ st.s.length → v ≠ t' → r2.getD v .none = st1.r.getD v .none := fun v e1 e2 => by rw [hg, if_neg e1, if_neg e2]
 have hspl := fun k => spl_get (l := row) (us := rcs) (k := o) (m := ti.size) hrl hle k
 obtain ⟨φ, p1, p2⟩ : ∃ φ : Nat → Nat → Pv, (∀ k, o ≤ k ∧ k < o + ti.size → φ t' k = ph' st.s.length (k - o)) ∧ ∀ v k, ¬ (v = t' ∧ o ≤ k ∧ k < o + ti.size) → φ v k = ph' v k :=
  ⟨fun v k => if v = t' ∧ o ≤ k ∧ k < o + ti.size then ph' st.s.length (k - o) else ph' v k, fun k hk => if_pos ⟨rfl, hk⟩, fun v k hk => if_neg hk⟩
 -- whose block a block is
 have hown : ∀ v κ b, owns r2 bx φ v κ b →
   v ≠ st.s.length ∧ (((v = t' ∧ ∃ k, κ = some k ∧ o ≤ k ∧ k < o + ti.size ∧ owns st1.r bx ph' st.s.length (some (k - o)) b)) ∨ (owns st1.r bx ph' v κ b ∧ ¬ (v = t' ∧ ∃ k, κ = some k ∧ o ≤ k ∧ k < o + ti.size))) := fun v κ b hb => by
  by_cases e1 : v = st.s.length
  ·subst e1; exact (owns_none _ _ _ hgN _ _ hb).elim
  ·refine ⟨e1, ?_⟩
   cases κ with
   | none =>
    obtain ⟨rw', k1, rfl⟩ := owns_box hb
    refine .inr ⟨?_, by simp⟩
    by_cases e2 : v = t'
    ·subst e2; exact hob
    ·rw [hgO v e1 e2] at k1; exact owns_of_box k1
   | some k =>
    obtain ⟨rc', k1, k2⟩ := owns_cell hb
    by_cases e2 : v = t'
    ·subst e2
     rw [hgT] at k1
     have k1' : (row.take o ++ rcs ++ row.drop (o + ti.size))[k]? = some rc' := k1
     rw [hspl] at k1'
     by_cases hk : o ≤ k ∧ k < o + ti.size
     ·rw [if_pos hk] at k1'
      rw [p1 k hk] at k2
      exact .inl ⟨rfl, k, rfl, hk.1, hk.2, own_blk (by rw [hN1]; exact k1') k2⟩
     ·rw [if_neg hk] at k1'
      rw [p2 _ _ (fun hh => hk hh.2)] at k2
      refine .inr ⟨own_blk (by rw [hrow']; exact k1') k2, ?_⟩
      rintro ⟨_, k', hk', hh⟩
      cases hk'; exact hk hh
    ·rw [hgO v e1 e2] at k1
     rw [p2 _ _ (fun hh => e2 hh.1)] at k2
     exact .inr ⟨own_blk k1 k2, fun hh => e2 hh.1⟩
 refine ⟨S, bx, φ, ⟨?_, ?_, hrel.defers, ⟨fun v => ?_, fun v κ v2 κ2 b b1 b2 => ?_, fun v κ b b1 => ?_, ⟨fun b hb => Nat.lt_of_lt_of_le (hrel.heap.low.1 b hb) hcg.size, hrel.heap.low.2.frame (hrel.heap.write hob hcg).1 (fun _ h => h)⟩⟩, fun v κ b b1 => ?_, ?_, hrel.keep, hrel.new, chg_mine hrel hob hcg⟩, ?_⟩
 ·simp [kill, hrel.size]
 ·refine ⟨?_, fun v hv => hrel.rsize.2 v (by simpa [kill] using hv)⟩
  show (kill _ st1.s).length + 1 ≤ r2.length
  rw [← hr2]; simpa [kill] using hrel.rsize.1
 ·show RootRep T w' S (bx v) _ (r2.getD v .none)
  by_cases e1 : v = st.s.length
  ·subst e1; rw [hgN]; trivial
  ·by_cases e2 : v = t'
   ·subst e2
    rw [hgT]
    have hlen2 : (row.take o ++ rcs ++ row.drop (o + ti.size)).length = row.length := spl_length hrl hle
    refine ⟨⟨_, e, hheap', ?_, fun k hk => ?_⟩, fun k hk => ?_, fun k f hk => ?_⟩
    ·rw [List.size_toArray, spl_length hxt hfit2, hlen2, Array.length_toList, h2]
    ·rw [List.getElem?_toArray, spl_get hxt hfit2]
     by_cases hk2 : o ≤ k ∧ k < o + ti.size
     ·rw [if_pos hk2, p1 k hk2]
      have hk3 : k - o < x.cells.toList.length := by omega
      rw [List.getElem?_eq_getElem hk3, hvals _ hk3]
     ·rw [if_neg hk2, p2 _ _ (fun hh => hk2 hh.2), Array.getElem?_toList]
      exact h3 k (by omega)
    ·have hs := hspl k
     by_cases hk2 : o ≤ k ∧ k < o + ti.size
     ·have hk3 : k - o < rcs.length := by omega
      rw [if_pos hk2, List.getElem?_eq_getElem hk3] at hs
      rw [get_of hk hs]
      rw [p1 k hk2]
      exact hrel.heap.write_cell hob hcg (u := st.s.length) (o := k - o) (by rw [hN1, List.getElem?_eq_getElem hk3]) (by simp)
     ·have hk3 : k < row.length := by omega
      rw [if_neg hk2, List.getElem?_eq_getElem hk3] at hs
      rw [get_of hk hs]
      rw [p2 _ _ (fun hh => hk2 hh.2)]
      exact hrel.heap.write_cell hob hcg (u := v) (o := k) (by rw [hrow']; exact List.getElem?_eq_getElem hk3) (by simp)
    ·rw [hspl k] at hk
     split at hk
     ·rename_i hk2; rw [p1 k hk2]; exact hme _ f hk
     ·rename_i hk2
      rw [p2 _ _ (fun hh => hk2 hh.2)]
      exact h5 k f hk
   ·rw [hgO v e1 e2]
    have := hR v e2
    have e3 : φ v = ph' v := by funext k; exact p2 _ _ (fun hh => e2 hh.1)
    rw [e3]; exact this
 ·obtain ⟨n1, c1⟩ := hown v κ b b1
  obtain ⟨n2, c2⟩ := hown v2 κ2 b b2
  rcases c1 with ⟨rfl, k, rfl, k1, k2, k3⟩ | ⟨d1, d2⟩ <;> rcases c2 with ⟨rfl, k', rfl, k1', k2', k3'⟩ | ⟨d1', d2'⟩
  ·have := (hrel.heap.inj _ _ _ _ b k3 k3').2
   simp only [Option.some.injEq] at this ⊢
   exact ⟨trivial, by omega⟩
  ·exact absurd (hrel.heap.inj _ _ _ _ b k3 d1').1.symm n2
  ·exact absurd (hrel.heap.inj _ _ _ _ b d1 k3').1 n1
  ·exact hrel.heap.inj _ _ _ _ b d1 d1'
 ·obtain ⟨n1, c1⟩ := hown v κ b b1
  rcases c1 with ⟨rfl, k, rfl, k1, k2, k3⟩ | ⟨d1, d2⟩
  ·have := hrel.heap.free _ _ b k3; exact ⟨this.1, Nat.lt_of_lt_of_le this.2 hcg.size⟩
  ·have := hrel.heap.free _ _ b d1; exact ⟨this.1, Nat.lt_of_lt_of_le this.2 hcg.size⟩
 ·obtain ⟨n1, c1⟩ := hown v κ b b1
  rcases c1 with ⟨rfl, k, rfl, k1, k2, k3⟩ | ⟨d1, d2⟩
  ·exact hrel.mine _ _ b k3
  ·exact hrel.mine _ _ b d1
 ·refine slots_map (fun x => if (ofRoot st.s.length x || ofCells t' o ti.size x) = true then .undef else x) (fun v y hy => ?_) hrel.slot
  split
  ·trivial
  ·rename_i hk
   have k1 : ofRoot st.s.length y = false := by
    cases hh : ofRoot st.s.length y with
    | false => rfl
    | true => rw [hh] at hk; simp at hk
   have k2 : ofCells t' o ti.size y = false := by
    cases hh : ofCells t' o ti.size y with
    | false => rfl
    | true => rw [hh] at hk; simp at hk
   have hy' := hy.frame (w' := w') hS (fun _ h => h)
   refine hy'.congr (fun v p rc' hc _ hv => ?_) (fun v p he rw' hv hp' => ?_) (fun f caps he v hv rw' hrw => ?_)
   ·have n1 : v ≠ st.s.length := fun e1 => by
     subst e1
     rcases ofCell_cases hc with rfl | ⟨lo, hi, rfl⟩ | ⟨k, rfl⟩ | rfl | ⟨p, rfl⟩ | ⟨p, k, off, rfl⟩ <;> simp [ofRoot] at k1
    have n2 := ofCells_true hc k2
    refine ⟨?_, p2 _ _ n2⟩
    show (r2.getD v .none).row[p]? = _
    by_cases e2 : v = t'
    ·subst e2
     rw [hgT]
     show (row.take o ++ rcs ++ row.drop (o + ti.size))[p]? = _
     rw [hspl, if_neg (fun hh => n2 ⟨rfl, hh⟩)]
     rw [hrow'] at hv; exact hv
    ·rw [hgO v n1 e2]; exact hv
   ·subst he
    have n1 : v ≠ st.s.length := fun e1 => by subst e1; simp [ofRoot] at k1
    show ∃ row', r2.getD v .none = _ ∧ _
    by_cases e2 : v = t'
    ·subst e2
     rw [hrow'] at hv; cases hv
     exact ⟨_, hgT, by rw [spl_length hrl hle]; exact hp', rfl⟩
    ·exact ⟨rw', by rw [hgO v n1 e2]; exact hv, hp', rfl⟩
   ·have n1 : v ≠ st.s.length := fun e1 => by subst e1; rw [ofRoot_caps he hv] at k1; cases k1
    show ∃ row', r2.getD v .none = _ ∧ _
    by_cases e2 : v = t'
    ·subst e2
     rw [hrow'] at hrw; cases hrw
     exact ⟨_, hgT, spl_length hrl hle, rfl⟩
    ·exact ⟨rw', by rw [hgO v n1 e2]; exact hrw, rfl, rfl⟩
 ·show r2.getD (kill _ st1.s).length .none = .none
  rw [show (kill (fun x => ofRoot st.s.length x || ofCells t' o ti.size x) st1.s).length = st.s.length by simp [kill, hlen]]
  exact hgN
theorem box_store_sound (hT : TOk P T) (h : Rel T w0 S0 F st a w S bx ph) (hsp : st.r.getD st.s.length .none = .none) {t : TypeId} {ti : TI} (ht : T t = some ti) {t' o : Nat} {x u : Value} {xs : List X} {st1 : St} {row : List RC}
  (hu : XRep T w S st.r bx ph u (.ptr t' o)) (hx : XsRep T w S st.r bx ph x.cells xs) (hxl : xs.length = ti.size) (hp : pushAll T (std P T) st xs = some st1)
  (hrow : rootOf st1.r t' = .box row) (hle : o + ti.size ≤ row.length) (hne : t' ≠ st.s.length) (hme : (rootOf st1.r st.s.length).row.any RC.isMe = false) :
  ∃ w', (Instr.storeAt t u x).run P w = .ok () w' ∧ Rels T w0 S0 F { s := kill (fun x => ofRoot st.s.length x || ofCells t' o ti.size x) st1.s, r := (st1.r.set t' (.box (row.take o ++ (rootOf st1.r st.s.length).row ++ row.drop (o + ti.size)))).set st.s.length .none } a w' := by
 have hb0 : ∀ row, st.r.getD st.s.length .none ≠ .box row := by rw [hsp]; exact fun _ h => by cases h
 obtain ⟨ph', q⟩ := pushAll_sound xs x.cells.toList st ph h hb0 (by rw [Array.length_toList]; exact hx.1) (fun k hk hk2 => by simpa using hx.2 k hk (by simpa using hk2)) hp
 obtain ⟨rcs, r1, r2⟩ := q.row
 have hl0 : (st.r.getD st.s.length .none).row = [] := by rw [hsp]; rfl
 rw [hl0, List.nil_append] at r2
 have hvals : ∀ k (hk : k < x.cells.toList.length), ph' st.s.length k = x.cells.toList[k] := fun k hk => by
  have := q.vals k hk
  rw [hl0] at this
  simpa using this
 have hxs : x.cells.size = ti.size := by rw [hx.1, hxl]
 have hrl : rcs.length = ti.size := by rw [r1, Array.length_toList, hxs]
 obtain ⟨row00, u1, u2, rfl⟩ := hu
 have hrN : (rootOf st1.r st.s.length).row = rcs := r2
 rw [hrN] at hme
 exact box_store_core hT q.rel q.len ht r2 hrl hxs hvals (xs_one h.heap hx (push_nu xs st st1 hp)) rfl hrow hle hne (fun k f hk => (noMe_get hme hk).elim)
theorem me_store_sound (hT : TOk P T) (h : Rel T w0 S0 F st a w S bx ph) (hsp : st.r.getD st.s.length .none = .none) {t : TypeId} {ti : TI} (ht : T t = some ti) (h1 : ti.size = 1) {t' o : Nat} {x u : Value} {g : FuncId} {row : List RC}
    (hu : XRep T w S st.r bx ph u (.ptr t' o)) (hx : XRep T w S st.r bx ph x (.bfn g t')) (hrow : rootOf st.r t' = .box row) (hle : o + 1 ≤ row.length) (hne : t' ≠ st.s.length) :
    ∃ w', (Instr.storeAt t u x).run P w = .ok () w' ∧ Rels T w0 S0 F { s := kill (fun x => ofRoot st.s.length x || ofCells t' o 1 x) st.s, r := (st.r.set t' (.box (row.take o ++ [.me (some g)] ++ row.drop (o + 1)))).set st.s.length .none } a w' := by
  obtain ⟨q1, q2⟩ := pushOwn h hsp (rc := .me (some g)) (z := .of x) trivial (fun b hb => hb.elim)
  obtain ⟨_, rfl⟩ := hx
  obtain ⟨_, _, _, hu⟩ := hu
  have hN : st.s.length < st.r.length := by have := h.rsize.1; omega
  have hcells : (meV g (bx t')).cells = #[meV g (bx t')] := rfl
  obtain ⟨w', r1, r2⟩ := box_store_core (st := st) (rcs := [.me (some g)]) (x := meV g (bx t')) (row := row) hT q1 rfl ht (by rw [q2]; rfl) h1.symm (by rw [hcells, h1]; rfl) (fun k hk => by
      have : k = 0 := by simpa [hcells] using hk
      subst this
      simp [phPush, hcells]; rfl) (fun v hv => by
      rw [hcells] at hv
      have : v = meV g (bx t') := by simpa using hv
      subst this; rfl) hu (by
      show (pushR st.r st.s.length _).getD t' .none = _
      rw [getD_push hN, if_neg (fun e => hne e.symm)]; exact hrow) (by rw [h1]; exact hle) hne (fun k f hk => by
      have : k = 0 := by
        have := (List.getElem?_eq_some_iff.1 hk).1
        simpa using this
      subst this
      cases hk
      simp [phPush]; rfl)
  refine ⟨w', r1, ?_⟩
  have e1 : (rootOf (pushR st.r st.s.length (.me (some g))) st.s.length).row = [.me (some g)] := by unfold rootOf; rw [q2]; rfl
  rw [h1] at r2
  simp only [e1] at r2
  have e2 : ((pushR st.r st.s.length (.me (some g))).set t' (.box (row.take o ++ [.me (some g)] ++ row.drop (o + 1)))).set st.s.length .none = (st.r.set t' (.box (row.take o ++ [.me (some g)] ++ row.drop (o + 1)))).set st.s.length .none := by
    unfold pushR
    rw [List.set_comm _ _ (fun e => hne e.symm), List.set_set]
  rw [e2] at r2
  exact r2
end Go.Proofs.Ytcpcghnpoekhpaa.A
/- The ghost machine, part 21: calls. -/
set_option linter.unusedSimpArgs false
set_option linter.unusedVariables false
set_option maxRecDepth 100000
set_option maxHeartbeats 4000000
namespace Go.Proofs.Ytcpcghnpoekhpaa.A
open Go Go.RowKit
variable {P : Program} {T : TT} {w w' w0 : World} {S S0 : Nat → Prop} {F : Fr} {bx : Nat → Nat} {ph : Nat → Nat → Pv} {a : Act} {st st' : St}
theorem nones_getD (l : List Arg) (hl : ∀ x ∈ l, x.asRoot = .none) (t : Nat) : (l.map Arg.asRoot).getD t .none = .none := by
 rw [List.getD_eq_getElem?_getD, List.getElem?_map]
 cases h : l[t]? with
 | none => rfl
 | some x => exact hl x (List.mem_of_getElem? h)
theorem heap_nones {S : Nat → Prop} (l : List Arg) (hl : ∀ x ∈ l, x.asRoot = .none) (hlow : LowG w S) : Heap T w S (l.map Arg.asRoot) bx ph := by
 refine ⟨fun t => by rw [nones_getD l hl]; trivial, fun t κ t' κ' b h => ?_, fun t κ b h => ?_, hlow⟩
 ·exact (owns_none _ _ _ (nones_getD l hl t) _ _ h).elim
 ·exact (owns_none _ _ _ (nones_getD l hl t) _ _ h).elim
theorem parts_sound {r : List Root} {d : Nat} {row : List RC} {φ : Nat → Pv} (hcell : ∀ o rc, row[o]? = some rc → XRep T w S r bx ph (φ o) (rcX d o rc)) :
    ∀ (ps : List (Bool × List RC)) (o : Nat) (us : List Value), (∀ k rc, (ps.flatMap (·.2))[k]? = some rc → row[o + k]? = some rc) → PartVals φ o us ps →
      us.length = (partsX d o ps).length ∧ ∀ k (h : k < (partsX d o ps).length) (h2 : k < us.length), PartRep T w S r bx ph us[k] (partsX d o ps)[k] := by
  intro ps
  induction ps with
  | nil =>
    intro o us _ hv
    cases us with
    | nil => exact ⟨rfl, fun k hk => absurd hk (by simp [partsX])⟩
    | cons u us => exact hv.elim
  | cons p ps ih =>
    intro o us hrow hv
    cases us with
    | nil => exact hv.elim
    | cons u us =>
      obtain ⟨h1, h2⟩ := hv
      obtain ⟨b, rcs⟩ := p
      have hrow1 : ∀ k rc, rcs[k]? = some rc → row[o + k]? = some rc := fun k rc hk => hrow k rc (by
        rw [List.flatMap_cons, List.getElem?_append_left (List.getElem?_eq_some_iff.1 hk).1]; exact hk)
      obtain ⟨i1, i2⟩ := ih (o + rcs.length) us (fun k rc hk => by
        have := hrow (rcs.length + k) rc (by
          rw [List.flatMap_cons, List.getElem?_append_right (by simp)]
          simpa using hk)
        rw [Nat.add_assoc]; exact this) h2
      refine ⟨by simp [partsX, i1], fun k hk hk2 => ?_⟩
      cases k with
      | succ k => exact i2 k (by simpa [partsX] using hk) (by simpa using hk2)
      | zero =>
        show PartRep T w S r bx ph u (b, rcs.zipIdx.map fun (rc, i) => rcX d (o + i) rc)
        have hx : ∀ i (hi : i < rcs.length), XRep T w S r bx ph (φ (o + i)) (rcX d (o + i) rcs[i]) := fun i hi => hcell _ _ (hrow1 i _ (List.getElem?_eq_getElem hi))
        unfold PartVal at h1
        unfold PartRep
        dsimp only at h1 ⊢
        cases b with
        | true =>
          simp only [if_true] at h1 ⊢
          obtain ⟨vs, rfl, q1, q2⟩ := h1
          refine ⟨vs, rfl, by simp [q1], fun i hi hi2 => ?_⟩
          have hi' : i < rcs.length := by simpa using hi
          rw [q2 i hi2]
          simpa using hx i hi'
        | false =>
          simp only [Bool.false_eq_true, if_false] at h1 ⊢
          obtain ⟨q1, rfl⟩ := h1
          have h0 := hx 0 (by omega)
          match rcs, q1, h0 with
          | [rc], _, h0 => exact ⟨rcX d o rc, by simp, h0⟩
theorem retV_sound {r : List Root} {d : Nat} {row : List RC} {φ : Nat → Pv} {ret : RV} {v : Value} (hrow : row = ret.parts.flatMap (·.2)) (hcell : ∀ o rc, row[o]? = some rc → XRep T w S r bx ph (φ o) (rcX d o rc))
  (hv : RetRep φ v ret) : VRep T w S r bx ph v (retV d ret) := by
 have hp := fun us h => parts_sound (ps := ret.parts) (o := 0) (us := us) hcell (fun k rc hk => by rw [Nat.zero_add, hrow]; exact hk) h
 unfold RetRep at hv
 unfold retV
 cases ht : ret.tup with
 | true =>
  rw [ht] at hv
  simp only [if_true] at hv ⊢
  obtain ⟨us, rfl, h2⟩ := hv
  obtain ⟨i1, i2⟩ := hp _ h2
  refine ⟨us, rfl, by simpa using i1, fun k hk hk2 => ?_⟩
  have := i2 k hk (by simpa using hk2)
  rw [Array.getElem_toList] at this
  exact this
 | false =>
  rw [ht] at hv
  simp only [Bool.false_eq_true, if_false] at hv ⊢
  obtain ⟨i1, i2⟩ := hp _ hv
  split
  ·rename_i b xs hpx
   have := i2 0 (by rw [hpx]; simp) (by simp)
   simp only [hpx, List.getElem_cons_zero] at this
   unfold PartRep at this
   unfold mk
   cases b with
   | true => simp only [if_true] at this; exact this
   | false =>
    simp only [Bool.false_eq_true, if_false] at this ⊢
    obtain ⟨x, rfl, h3⟩ := this
    exact h3
  ·trivial
end Go.Proofs.Ytcpcghnpoekhpaa.A
/- The ghost machine, between parts 21 and 22: maps made and changed. -/
set_option linter.unusedSimpArgs false
set_option linter.unusedVariables false
set_option maxRecDepth 100000
set_option maxHeartbeats 4000000
namespace Go.Proofs.Ytcpcghnpoekhpaa.A
open Go Go.RowKit
variable {P : Program} {T : TT} {w w' w0 : World} {S S0 : Nat → Prop} {F : Fr} {bx : Nat → Nat} {ph : Nat → Nat → Pv} {a : Act} {st st' : St}
def setBlk (w : World) (b : Nat) (o : Obj) : World := { w with heap := w.heap.setIfInBounds b o }
theorem setBlk_chg (w : World) (b : Nat) (o : Obj) : Chg (fun k => k = b) w (setBlk w b o) := by
 refine ⟨rfl, rfl, rfl, by simp [setBlk], fun k hk hne => ?_⟩
 show (w.heap.setIfInBounds b o)[k]? = _
 rw [Array.getElem?_setIfInBounds, if_neg (fun e => hne e.symm)]
theorem setBlk_at {w : World} {b : Nat} (o : Obj) {o' : Obj} (h : w.heap[b]? = some o') : (setBlk w b o).heap[b]? = some o := by
 have hb : b < w.heap.size := by
  obtain ⟨h1, _⟩ := Array.getElem?_eq_some_iff.1 h; exact h1
 show (w.heap.setIfInBounds b o)[b]? = _
 rw [Array.getElem?_setIfInBounds, if_pos rfl, if_pos hb]
theorem run_sm {b clock : Nat} {es : Array MapEntry} (o : Obj) (hb : w.heap[b]? = some (.map es clock)) : (setObj b o).run P w = .ok () (setBlk w b o) := by simp [setObj, Sem.run, hb, setBlk]
theorem sameBits_self {kk : KK} {k : Value} (h : kk.ok k = true) : Instr.sameBits 10000 k k = true := by
 cases kk with
 | int q => cases k <;> simp [KK.ok] at h; simp [Instr.sameBits]
 | str =>
  cases k <;> simp [KK.ok] at h
  simp only [Instr.sameBits]
  rw [beq_toListBytes]; simp
 | ints n =>
  cases k <;> simp [KK.ok] at h
  rename_i c
  simp only [Instr.sameBits, beq_self_eq_true, Bool.true_and, List.all_eq_true]
  intro p hp
  have h1 : p.1 = p.2 := by
   obtain ⟨i, hi, rfl⟩ := List.mem_iff_getElem.1 hp
   simp
  have h2 : p.2 ∈ c.toList := (List.of_mem_zip hp).2
  have h3 : isI64 p.2 = true := by
   obtain ⟨i, hi, he⟩ := List.mem_iff_getElem.1 h2
   have hi' : i < c.size := by simpa using hi
   have := h.2 i hi'
   rw [← he]; simpa using this
  obtain ⟨u, v⟩ := p
  dsimp only at h1 h3 ⊢
  subst h1
  cases u <;> simp [isI64] at h3
  simp [Instr.sameBits]
theorem kidx_at {kk : KK} {ks : List Value} {k : Value} {i : Nat} (hall : ∀ k ∈ ks, kk.ok k = true) (hok : kk.ok k = true) (h : kidx ks k = some i) : ∃ hi : i < ks.length, ks[i] = k := by
 obtain ⟨hi, h1, _⟩ := List.findIdx?_eq_some_iff_getElem.1 h
 exact ⟨hi, ((keq_iff hok (hall _ (List.getElem_mem hi))).1 h1).symm⟩
structure MEs (w : World) (S : Nat → Prop) (kk : KK) (m : GM) (es : Array MapEntry) : Prop where
 keys : es.toList.map MapEntry.key = m.ks
 born : es.toList.map MapEntry.born = m.born
 val : ∀ i (h : i < es.size) (h2 : i < m.vs.length), CRep w S es[i].val m.vs[i]
 ok : ∀ k ∈ m.ks, kk.ok k = true
theorem MEs.size {kk : KK} {m : GM} {es : Array MapEntry} (h : MEs w S kk m es) : es.size = m.ks.length := by
 have : es.toList.length = m.ks.length := by rw [← h.keys]; simp
 rwa [Array.length_toList] at this
theorem MEs.frame {kk : KK} {m : GM} {es : Array MapEntry} (h : MEs w S kk m es) (hb : ∀ b, S b → w'.heap[b]? = w.heap[b]?) : MEs w' S kk m es :=
 ⟨h.keys, h.born, fun i h1 h2 => (h.val i h1 h2).frame hb (fun _ h => h), h.ok⟩
theorem MEs.put {kk : KK} {m : GM} {es : Array MapEntry} (h : MEs w S kk m es) {k v : Value} {c : C} (hok : kk.ok k = true) (hv : CRep w S v c) : MEs w S kk (m.put k c) (es.push { key := k, val := v, born := m.clock }) := by
 refine ⟨by simp [GM.put, h.keys], by simp [GM.put, h.born], fun i h1 h2 => ?_, fun k' hk => ?_⟩
 ·have hl := h.size
  have hm := m.l1
  simp only [GM.put, List.length_append, List.length_cons, List.length_nil] at h2 ⊢
  rw [Array.getElem_push]
  split
  ·rename_i hi
   rw [List.getElem_append_left (by omega)]
   exact h.val i hi (by omega)
  ·rename_i hi
   rw [List.getElem_append_right (by omega)]
   simpa using hv
 ·rcases List.mem_append.1 hk with hk | hk
  ·exact h.ok k' hk
  ·rw [List.mem_singleton.1 hk]; exact hok
theorem MEs.vset {kk : KK} {m : GM} {es : Array MapEntry} (h : MEs w S kk m es) {i : Nat} {v : Value} {c : C} (hv : CRep w S v c) : MEs w S kk (m.vset i c) (es.modify i fun e => { e with val := v }) := by
 refine ⟨?_, ?_, fun j h1 h2 => ?_, h.ok⟩
 ·rw [show (m.vset i c).ks = m.ks from rfl, ← h.keys]
  apply List.ext_getElem?
  intro j
  simp only [List.getElem?_map, Array.getElem?_toList, Array.getElem?_modify]
  split <;> cases es[j]? <;> rfl
 ·rw [show (m.vset i c).born = m.born from rfl, ← h.born]
  apply List.ext_getElem?
  intro j
  simp only [List.getElem?_map, Array.getElem?_toList, Array.getElem?_modify]
  split <;> cases es[j]? <;> rfl
 ·have h1' : j < es.size := by simpa using h1
  have h2' : j < m.vs.length := by simpa [GM.vset] using h2
  simp only [GM.vset]
  rw [Array.getElem_modify, List.getElem_set]
  split
  ·exact hv
  ·exact h.val j h1' h2'
theorem modify_val {es : Array MapEntry} {i : Nat} {k v : Value} (h : ∀ hi : i < es.size, es[i].key = k) : (es.modify i fun e => { e with key := k, val := v }) = es.modify i fun e => { e with val := v } := by
 apply Array.ext
 ·simp
 ·intro j h1 h2
  simp only [Array.getElem_modify]
  split
  ·rename_i e
   subst e
   have hi : i < es.size := by simpa using h1
   simp [h hi]
  ·rfl
theorem modify_same {es : Array MapEntry} {i : Nat} {k : Value} (h : ∀ hi : i < es.size, es[i].key = k) : (es.modify i fun e => { e with key := k }) = es := by
 apply Array.ext
 ·simp
 ·intro j h1 h2
  simp only [Array.getElem_modify]
  split
  ·rename_i e
   subst e
   simp [← h h2]
  ·rfl
theorem MEs.key_at {kk : KK} {m : GM} {es : Array MapEntry} (h : MEs w S kk m es) {k : Value} {i : Nat} (hok : kk.ok k = true) (hi : kidx m.ks k = some i) : ∃ h1 : i < es.size, es[i].key = k := by
 obtain ⟨h1, h2⟩ := kidx_at h.ok hok hi
 have h3 : i < es.size := by rw [h.size]; exact h1
 refine ⟨h3, ?_⟩
 have := congrArg (fun l => l[i]?) h.keys
 simp only [List.getElem?_map, Array.getElem?_toList, Array.getElem?_eq_getElem h3, List.getElem?_eq_getElem h1, Option.map_some, Option.some.injEq] at this
 rw [this, h2]
theorem run_mapUpdate (hT : TOk P T) {t : TypeId} {kk : KK} {te : TI} (ht : mapTy T t = some (kk, te)) {b : Nat} {m : GM} {es : Array MapEntry} {k v : Value} (hb : w.heap[b]? = some (.map es m.clock)) (h : MEs w S kk m es) (hok : kk.ok k = true) {c : C} (hv : CRep w S v c) :
  ∃ es', (Instr.mapUpdate t (.map (some b)) k v).run P w = .ok () (setBlk w b (.map es' (m.set k c).clock)) ∧ MEs w S kk (m.set k c) es' := by
 obtain ⟨kt, e, h1, h2, h3, _, _⟩ := mapTy_desc hT ht
 have hf := run_findKey hT h2 hok es.toList (fun e he => h.ok _ (by rw [← h.keys]; exact List.mem_map.2 ⟨e, he, rfl⟩)) w
 rw [h.keys] at hf
 unfold Instr.mapUpdate
 simp only [Sem.run_bind, run_underlying h1, Result.andThen_ok, run_gm hb, run_checkKey hT h2, hf]
 unfold GM.set
 cases hq : kidx m.ks k with
 | none => exact ⟨_, by simp only [Option.map_none, run_sm _ hb, GM.put], h.put hok hv⟩
 | some i =>
  obtain ⟨h4, h5⟩ := h.key_at hok hq
  refine ⟨es.modify i fun e => { e with val := v }, ?_, h.vset hv⟩
  have e1 : ((es[i]?).map MapEntry.key).getD k = k := by rw [Array.getElem?_eq_getElem h4]; exact h5
  simp only [Option.map_some, e1, Instr.keyThatStays, sameBits_self hok, if_true, Sem.run_bind, Sem.run_pure, Result.andThen_ok, run_sm _ hb, GM.vset]
  rw [modify_val (es := es) (i := i) (k := k) (fun _ => h5)]
theorem run_mapEntry (hT : TOk P T) {t : TypeId} {kk : KK} {te : TI} (ht : mapTy T t = some (kk, te)) {b : Nat} {m : GM} {es : Array MapEntry} {k : Value} (hb : w.heap[b]? = some (.map es m.clock)) (h : MEs w S kk m es) (hok : kk.ok k = true) {z : C} (hz : CRep w S te.zero z) :
  ∃ es' v, (Instr.mapEntry t (.map (some b)) k).run P w = .ok (.tuple #[v, .int .i64 ((m.ent k z).stampOf k)]) (setBlk w b (.map es' (m.ent k z).clock)) ∧ MEs w S kk (m.ent k z) es' ∧ CRep w S v (mgetC m.ks m.vs k z) := by
 obtain ⟨kt, e, h1, h2, h3, _, _⟩ := mapTy_desc hT ht
 have hf := run_findKey hT h2 hok es.toList (fun e he => h.ok _ (by rw [← h.keys]; exact List.mem_map.2 ⟨e, he, rfl⟩)) w
 rw [h.keys] at hf
 unfold Instr.mapEntry
 simp only [Sem.run_bind, run_underlying h1, Result.andThen_ok, run_gm hb, run_checkKey hT h2, hf]
 unfold GM.ent mgetC
 cases hq : kidx m.ks k with
 | none =>
  refine ⟨_, te.zero, ?_, h.put hok hz, hz⟩
  dsimp only
  have e1 : (m.put k z).stampOf k = (m.clock : Int) := by
   unfold GM.stampOf
   have : kidx (m.put k z).ks k = some m.ks.length := by
    have hkk : keq k k = true := (keq_iff hok hok).2 rfl
    show List.findIdx? (keq k) (m.ks ++ [k]) = _
    have hq' : List.findIdx? (keq k) m.ks = none := hq
    rw [List.findIdx?_append, hq']
    simp [hkk]
   rw [this]
   have hl := m.l2
   simp [GM.put, ← hl]
  rw [e1]
  simp only [Option.map_none, run_zero hT h3, Sem.run_bind, Result.andThen_ok, run_sm _ hb, Sem.run_pure, GM.put, goInt]
 | some i =>
  obtain ⟨h4, h5⟩ := h.key_at hok hq
  have e1 : ((es[i]?).map MapEntry.key).getD k = k := by rw [Array.getElem?_eq_getElem h4]; exact h5
  have h6 : i < m.vs.length := by rw [m.l1, ← h.size]; exact h4
  dsimp only
  refine ⟨es, es[i].val, ?_, h, ?_⟩
  ·have e3 : m.stampOf k = (es[i].born : Int) := by
    unfold GM.stampOf
    rw [hq]
    dsimp only
    have := congrArg (fun l => l[i]?) h.born
    simp only [List.getElem?_map, Array.getElem?_toList, Array.getElem?_eq_getElem h4, Option.map_some] at this
    rw [List.getD_eq_getElem?_getD, ← this]; rfl
   simp only [Option.map_some, e1, Instr.keyThatStays, sameBits_self hok, h5, if_true, Sem.run_bind, Sem.run_pure, Result.andThen_ok, run_sm _ hb, modify_same (es := es) (i := i) (k := k) (fun _ => h5), Array.getElem?_toList, Array.getElem?_eq_getElem h4, Option.getD_some, e3, goInt]
  ·rw [List.getD_eq_getElem?_getD, List.getElem?_eq_getElem h6]
   exact h.val i h4 h6
theorem run_entryStore {t : TypeId} {kk : KK} {b : Nat} {m : GM} {es : Array MapEntry} {n : Int} {v : Value} (hb : w.heap[b]? = some (.map es m.clock)) (h : MEs w S kk m es) (hst : m.stamped n) {c : C} (hv : CRep w S v c) :
  ∃ es', (Instr.entryStore t (.map (some b)) (.int .i64 n) v).run P w = .ok () (setBlk w b (.map es' (m.stamp n c).clock)) ∧ MEs w S kk (m.stamp n c) es' := by
 unfold GM.stamped at hst
 unfold GM.stamp
 have hfi : es.findIdx? (fun e => (e.born : Int) == n) = m.bidx n := by
  unfold GM.bidx
  rw [← h.born, List.findIdx?_map]
  rw [← List.findIdx?_toArray]
  congr 1
 cases hq : m.bidx n with
 | none => rw [hq] at hst; cases hst
 | some i =>
  refine ⟨_, ?_, h.vset hv⟩
  rw [hq] at hfi
  unfold Instr.entryStore
  simp only [Sem.run_bind, Sem.run_pure, Result.andThen_ok, run_gm hb, asInt, asIntOf, hfi, run_sm _ hb, GM.vset]
theorem map_mrep {b : Nat} {kk : KK} {m : GM} {es : Array MapEntry} (hb : w.heap[b]? = some (.map es m.clock)) (h : MEs w S kk m es) : MRep w S b kk m := ⟨es, hb, h.keys, h.born, h.val, h.ok⟩
theorem map_write (h : Rel T w0 S0 F st a w S bx ph) {t o b : Nat} {kk : KK} {m m' : GM} {es' : Array MapEntry} (hc : (st.r.getD t .none).row[o]? = some (.map kk m)) (hv : (ph t o).v = .map (some b)) {ob : Obj} (hob : w.heap[b]? = some ob) (h' : MEs w S kk m' es') :
  Rel T w0 S0 F { st with r := setMap st.r t o kk m' } a (setBlk w b (.map es' m'.clock)) S bx ph := by
 have hog : owns st.r bx ph t (some o) b := own_blk hc (by show ownB (ph t o).v = _; rw [hv]; rfl)
 have hcg := setBlk_chg w b (.map es' m'.clock)
 obtain ⟨hS, _, _⟩ := h.heap.write hog hcg
 exact cell_write h hc rfl (fun _ _ _ e => by cases e) (fun _ _ _ => ⟨_, _, rfl⟩) (fun _ _ _ e => by cases e) hog hcg ⟨b, hv, map_mrep (setBlk_at _ hob) (h'.frame hS)⟩
end Go.Proofs.Ytcpcghnpoekhpaa.A
/- The ghost machine, part 22: calls, with roots that are handed over. -/
set_option linter.unusedSimpArgs false
set_option linter.unusedVariables false
set_option maxRecDepth 100000
set_option maxHeartbeats 4000000
namespace Go.Proofs.Ytcpcghnpoekhpaa.A
open Go Go.RowKit
variable {P : Program} {T : TT} {w w' w0 : World} {S S0 : Nat → Prop} {F : Fr} {bx : Nat → Nat} {ph : Nat → Nat → Pv} {a : Act} {st st' : St}
/-! ### what is handed over -/
theorem placeIn_get : ∀ (ts : List (Option Nat)) (t : Nat), some t ∈ ts → ts[placeIn ts t]? = some (some t) := by
 intro ts t
 induction ts with
 | nil => intro h; cases h
 | cons x ts ih =>
  intro h
  cases x with
  | none =>
   simp only [placeIn]
   rw [List.getElem?_cons_succ]
   exact ih (by simpa using h)
  | some u =>
   simp only [placeIn]
   by_cases e : u = t
   ·subst e; simp
   ·rw [if_neg e, List.getElem?_cons_succ]
    refine ih ?_
    rcases List.mem_cons.1 h with h | h
    ·cases h; exact absurd rfl e
    ·exact h
theorem distinct_inj : ∀ (ts : List (Option Nat)), distinct ts = true → ∀ i j t : Nat, ts[i]? = some (some t) → ts[j]? = some (some t) → i = j := by
 intro ts
 induction ts with
 | nil => intro _ i j t h; cases h
 | cons x ts ih =>
  intro hd i j t hi hj
  have hd' : distinct ts = true := by cases x <;> simp [distinct] at hd <;> first | exact hd | exact hd.2
  cases i with
  | zero =>
   cases j with
   | zero => rfl
   | succ j =>
    exfalso
    simp only [List.getElem?_cons_zero, Option.some.injEq] at hi
    subst hi
    simp only [distinct, Bool.and_eq_true, Bool.not_eq_true'] at hd
    have : ts.contains (some t) = true := by
     rw [List.contains_iff_mem]
     exact List.mem_of_getElem? (by simpa using hj)
    rw [this] at hd; exact absurd hd.1 (by simp)
  | succ i =>
   cases j with
   | zero =>
    exfalso
    simp only [List.getElem?_cons_zero, Option.some.injEq] at hj
    subst hj
    simp only [distinct, Bool.and_eq_true, Bool.not_eq_true'] at hd
    have : ts.contains (some t) = true := by
     rw [List.contains_iff_mem]
     exact List.mem_of_getElem? (by simpa using hi)
    rw [this] at hd; exact absurd hd.1 (by simp)
   | succ j => rw [ih hd' i j t (by simpa using hi) (by simpa using hj)]
theorem uniq_mem : ∀ (l seen : List Nat) (t : Nat), t ∈ l → t ∈ seen ∨ t ∈ uniq seen l := by
 intro l
 induction l with
 | nil => intro _ _ h; cases h
 | cons x l ih =>
  intro seen t h
  unfold uniq
  by_cases hx : seen.contains x = true
  ·rw [if_pos hx]
   rcases List.mem_cons.1 h with rfl | h
   ·exact .inl (List.contains_iff_mem.1 hx)
   ·exact ih seen t h
  ·rw [if_neg hx]
   rcases List.mem_cons.1 h with rfl | h
   ·exact .inr (List.mem_cons_self ..)
   ·rcases ih (x :: seen) t h with h | h
    ·rcases List.mem_cons.1 h with rfl | h
     ·exact .inr (List.mem_cons_self ..)
     ·exact .inl h
    ·exact .inr (List.mem_cons_of_mem _ h)
theorem caps_in {args : List V} {t : Nat} (h : t ∈ args.flatMap capsOf) : some t ∈ tsOf args := by
 unfold tsOf
 rcases uniq_mem _ (args.filterMap ptrOf) t h with h | h
 ·refine List.mem_append_left _ ?_
  obtain ⟨V, hV, he⟩ := List.mem_filterMap.1 h
  exact List.mem_map.2 ⟨V, hV, he⟩
 ·exact List.mem_append_right _ (List.mem_map.2 ⟨t, h, rfl⟩)
theorem fits_get {r : List Root} : ∀ (ts : List (Option Nat)) (us : List Root), fitsR r ts us = true → us.length = ts.length ∧ ∀ k : Nat, (∀ t : Nat, ts[k]? = some (some t) → ∃ row row' : List RC, us[k]? = some (.box row) ∧ r.getD t .none = .box row' ∧ row.length = row'.length) ∧ (ts[k]? = some none → us[k]? = some Root.none) := by
 intro ts
 induction ts with
 | nil =>
  intro us h
  cases us with
  | nil => exact ⟨rfl, fun k => ⟨fun t h => by simp at h, fun h => by simp at h⟩⟩
  | cons u us => simp [fitsR] at h
 | cons x ts ih =>
  intro us h
  cases us with
  | nil => cases x <;> simp [fitsR] at h
  | cons u us =>
   cases x with
   | none =>
    cases u <;> simp only [fitsR, Bool.false_eq_true] at h
    obtain ⟨h1, h2⟩ := ih us h
    refine ⟨by simp [h1], fun k => ?_⟩
    cases k with
    | zero => exact ⟨fun t h => by simp at h, fun _ => rfl⟩
    | succ k => simpa using h2 k
   | some t0 =>
    cases u with
    | none => simp [fitsR] at h
    | loose _ => simp [fitsR] at h
    | box row =>
     simp only [fitsR, Bool.and_eq_true] at h
     obtain ⟨h1, h2⟩ := ih us h.2
     refine ⟨by simp [h1], fun k => ?_⟩
     cases k with
     | zero =>
      refine ⟨fun t ht => ?_, fun h => by simp at h⟩
      simp only [List.getElem?_cons_zero, Option.some.injEq] at ht
      subst ht
      have h3 := h.1
      unfold rootOf at h3
      split at h3
      ·rename_i row' hr; exact ⟨row, row', rfl, hr, by simpa using h3⟩
      ·cases h3
     | succ k => simpa using h2 k
theorem setRoots_len : ∀ (ts : List (Option Nat)) (us r : List Root), (setRoots r ts us).length = r.length := by
 intro ts
 induction ts with
 | nil => intro us r; cases us <;> rfl
 | cons x ts ih =>
  intro us r
  cases us with
  | nil => cases x <;> rfl
  | cons u us =>
   cases x with
   | none => exact ih us r
   | some t => rw [setRoots, ih]; simp
theorem setRoots_out : ∀ (ts : List (Option Nat)) (us r : List Root) (t : Nat), some t ∉ ts → (setRoots r ts us).getD t .none = r.getD t .none := by
 intro ts
 induction ts with
 | nil => intro us r t _; cases us <;> rfl
 | cons x ts ih =>
  intro us r t h
  cases us with
  | nil => cases x <;> rfl
  | cons u us =>
   have h' : some t ∉ ts := fun hh => h (List.mem_cons_of_mem _ hh)
   cases x with
   | none => exact ih us r t h'
   | some v =>
    rw [setRoots, ih us _ t h', getD_set, if_neg]
    rintro ⟨e, _⟩
    subst e
    exact h (List.mem_cons_self ..)
theorem setRoots_in : ∀ (ts : List (Option Nat)) (us r : List Root), distinct ts = true → (∀ t, some t ∈ ts → t < r.length) → ∀ (k t : Nat) (u : Root), ts[k]? = some (some t) → us[k]? = some u → (setRoots r ts us).getD t .none = u := by
 intro ts
 induction ts with
 | nil => intro us r _ _ k t u h; cases h
 | cons x ts ih =>
  intro us r hd hlt k t u hk hu
  have hd' : distinct ts = true := by cases x <;> simp [distinct] at hd <;> first | exact hd | exact hd.2
  cases us with
  | nil => cases hu
  | cons u0 us =>
   cases k with
   | zero =>
    simp only [List.getElem?_cons_zero, Option.some.injEq] at hk hu
    subst hk; subst hu
    rw [setRoots, setRoots_out, getD_set, if_pos ⟨rfl, hlt t (List.mem_cons_self ..)⟩]
    intro hm
    simp only [distinct, Bool.and_eq_true, Bool.not_eq_true'] at hd
    rw [List.contains_iff_mem.2 hm] at hd; exact absurd hd.1 (by simp)
   | succ k =>
    have hlt' : ∀ t, some t ∈ ts → t < r.length := fun t h => hlt t (List.mem_cons_of_mem _ h)
    cases x with
    | none => exact ih us r hd' hlt' k t u (by simpa using hk) (by simpa using hu)
    | some v => exact ih us (r.set v u0) hd' (fun t h => by rw [List.length_set]; exact hlt' t h) k t u (by simpa using hk) (by simpa using hu)
theorem freezeX_other (x : X) (st : St) {t : Nat} (h : rootX x ≠ some t) : (freezeX T (std P T) st x).r.getD t .none = st.r.getD t .none := by
 have key : ∀ u o, u ≠ t → (freeze T (std P T) st u o).r.getD t .none = st.r.getD t .none := fun u o hne => by
  unfold freeze
  split
  ·show (setCellR st.r u o _).getD t .none = _
   rw [getD_setCell, if_neg hne]
  ·split
   ·show (setCellR st.r u o _).getD t .none = _
    rw [getD_setCell, if_neg hne]
   ·split
    ·show (setCellR st.r u o _).getD t .none = _
     rw [getD_setCell, if_neg hne]
    ·rfl
 cases x <;> first | rfl | exact key _ _ (fun e => h (by subst e; rfl))
theorem freezeAll_other : ∀ (xs : List X) (st : St) {t : Nat}, (∀ x ∈ xs, rootX x ≠ some t) → (xs.foldl (freezeX T (std P T)) st).r.getD t .none = st.r.getD t .none := by
 intro xs
 induction xs with
 | nil => intro st t _; rfl
 | cons x xs ih =>
  intro st t h
  rw [List.foldl_cons, ih _ (fun y hy => h y (List.mem_cons_of_mem _ hy))]
  exact freezeX_other x st (h x (List.mem_cons_self ..))
theorem Heap.sub {r R : List Root} (h : Heap T w S r bx ph) {τ : Nat → Option Nat} (hR : ∀ k, R.getD k .none = match τ k with | some t => r.getD t .none | none => .none) (hinj : ∀ k k' t, τ k = some t → τ k' = some t → k = k') :
  Heap T w S R (fun k => bx ((τ k).getD 0)) (fun k => ph ((τ k).getD 0)) ∧ ∀ k κ b, owns R (fun k => bx ((τ k).getD 0)) (fun k => ph ((τ k).getD 0)) k κ b → ∃ t, τ k = some t ∧ owns r bx ph t κ b := by
 have hown : ∀ k κ b, owns R (fun k => bx ((τ k).getD 0)) (fun k => ph ((τ k).getD 0)) k κ b → ∃ t, τ k = some t ∧ owns r bx ph t κ b := fun k κ b hb => by
  cases hk : τ k with
  | none => exact (owns_none _ _ _ (by rw [hR, hk]) _ _ hb).elim
  | some t =>
   refine ⟨t, rfl, ?_⟩
   unfold owns at hb ⊢
   rw [hR, hk] at hb
   simp only [hk, Option.getD_some] at hb
   exact hb
 refine ⟨⟨fun k => ?_, fun k κ k' κ' b h1 h2 => ?_, fun k κ b h1 => ?_, h.low⟩, hown⟩
 ·rw [hR]
  cases hk : τ k with
  | none => trivial
  | some t => simp only [Option.getD_some]; exact h.root t
 ·obtain ⟨t, a1, a2⟩ := hown k κ b h1
  obtain ⟨t', b1, b2⟩ := hown k' κ' b h2
  obtain ⟨e1, e2⟩ := h.inj _ _ _ _ b a2 b2
  subst e1
  exact ⟨hinj _ _ _ a1 b1, e2⟩
 ·obtain ⟨t, _, a2⟩ := hown k κ b h1
  exact h.free t κ b a2
theorem RootRep.frame2 {S' : Nat → Prop} {b : Nat} {φ : Nat → Pv} {R : Root} (h : RootRep T w S b φ R) (hb : ∀ b, S b → w'.heap[b]? = w.heap[b]?) (hS : ∀ b, S b → S' b) (hbox : ∀ row, R = .box row → w'.heap[b]? = w.heap[b]?)
  (hc : ∀ (o : Nat) (rc : RC) (b : Nat), R.row[o]? = some rc → rc.blk (φ o) b → w'.heap[b]? = w.heap[b]?) : RootRep T w' S' b φ R := by
 cases R with
 | none => trivial
 | box row =>
  obtain ⟨⟨arr, e, h1, h2⟩, h3, h4⟩ := h
  refine ⟨⟨arr, e, (hbox row rfl).trans h1, h2⟩, ?_, h4⟩
  exact fun o ho => (h3 o ho).frame hb hS fun b hb' => hc o _ b (List.getElem?_eq_getElem ho) hb'
 | loose row => exact fun o ho => (h o ho).frame hb hS fun b hb' => hc o _ b (List.getElem?_eq_getElem ho) hb'
theorem lost_cell {ts : List (Option Nat)} {x : X} {t o : Nat} (hx : lostX ts x = false) (hc : ofCell t o x = true) : some t ∉ ts := by
 rcases ofCell_cases hc with rfl | ⟨lo, hi, rfl⟩ | ⟨k, rfl⟩ | rfl | ⟨p, rfl⟩ | ⟨p, k, off, rfl⟩ <;> (simp only [lostX, handed, rootX] at hx; intro hm; rw [List.contains_iff_mem.2 hm] at hx; cases hx)
theorem arg_sound {S' : Nat → Prop} {ts : List (Option Nat)} {bxs : Nat → Nat} {k : Nat} {v : Value} {V1 : V} {x : Arg} (hv : VRep T w S st.r bx ph v V1) (hx : argOf T (std P T) st.r ts V1 = some x)
  (hbx : ∀ i t, ts[i]? = some (some t) → bxs i = bx t) (hcap : ∀ t ∈ capsOf V1, some t ∈ ts) (hk : ∀ t, ptrOf V1 = some t → ts[k]? = some (some t))
  (hs : ∀ y ∈ cellsOfV V1, handed ts y = false → ∀ u c, XRep T w S st.r bx ph u y → stab T (std P T) st.r y = some c → CRep w S' u c) : ArgRep w S' bxs (bxs k) v x := by
 unfold argOf at hx
 split at hx
 ·cases hx
  obtain ⟨rfl, _⟩ := hv; rfl
 ·rename_i f caps _
  cases hx
  obtain ⟨h1, h2⟩ := hv
  show v = _
  rw [h1, List.map_map]
  congr 2
  refine List.map_congr_left fun t ht => ?_
  show _ = Value.pointer (some ⟨bxs (placeIn ts t), 0, none⟩)
  rw [hbx _ _ (placeIn_get ts t (hcap t ht))]
 ·rename_i t
  split at hx
  ·rename_i row hr
   split at hx
   ·cases hx
   ·rename_i hne
    cases hx
    obtain ⟨row', h1, h2, h3⟩ := hv
    refine ⟨⟨row, rfl, ?_⟩, ?_⟩
    ·cases row with
     | nil => exact absurd rfl hne
     | cons => simp
    ·rw [h3, hbx _ _ (hk t rfl)]
  ·cases hx
 ·rename_i y _ _ _
  split at hx
  ·cases hx; trivial
  ·rename_i hh
   have hh' : handed ts y = false := by simpa using hh
   split at hx
   ·rename_i c hc
    cases hx
    refine ⟨c, rfl, hs y ?_ hh' v c hv hc⟩
    cases y <;> first | exact List.mem_singleton.2 rfl | (simp [stab] at hc)
   ·cases hx; trivial
 ·rename_i xs
  split at hx
  ·cases hx
  ·rename_i hh
   split at hx
   ·rename_i cs hc
    cases hx
    obtain ⟨us, rfl, h1, h2⟩ := hv
    have h3 := optAll_some _ _ hc
    have hlen : cs.length = xs.length := by have := congrArg List.length h3; simpa using this.symm
    refine ⟨us, rfl, by omega, fun k hk hk2 => ?_⟩
    have hkx : k < xs.length := by omega
    refine hs xs[k] (List.getElem_mem hkx) ?_ _ _ (h2 k hkx hk2) ?_
    ·cases hq : handed ts xs[k] with
     | false => rfl
     | true => exact absurd (List.any_eq_true.2 ⟨_, List.getElem_mem hkx, hq⟩) hh
    ·have := congrArg (fun l => l[k]?) h3
     simp only [List.getElem?_map, List.getElem?_eq_getElem hk, List.getElem?_eq_getElem (show k < xs.length by omega), Option.map_some, Option.some.injEq] at this
     exact this
   ·cases hx
 ·cases hx
theorem arg_root {r : List Root} {ts : List (Option Nat)} {V1 : V} {x : Arg} (h : argOf T (std P T) r ts V1 = some x) : x.real = true ∧ x.asRoot = match ptrOf V1 with | some t => r.getD t .none | none => .none := by
 unfold argOf at h
 split at h
 ·cases h; exact ⟨rfl, rfl⟩
 ·cases h; exact ⟨rfl, rfl⟩
 ·rename_i t
  split at h
  ·rename_i row hr
   split at h
   ·cases h
   ·cases h; exact ⟨rfl, hr.symm⟩
  ·cases h
 ·rename_i y h1 h2 h3
  have hp : ptrOf (.one y) = none := by
   unfold ptrOf
   split
   ·rename_i t he; cases he; exact absurd rfl (h3 t)
   ·rfl
  rw [hp]
  split at h
  ·cases h; exact ⟨rfl, rfl⟩
  ·split at h
   ·cases h; exact ⟨rfl, rfl⟩
   ·cases h; exact ⟨rfl, rfl⟩
 ·split at h
  ·cases h
  ·split at h
   ·cases h; exact ⟨rfl, rfl⟩
   ·cases h
 ·cases h
theorem virt_root {r : List Root} {o : Option Nat} {x : Arg} (h : virtOf r o = some x) : x.real = false ∧ ∃ t, o = some t ∧ x.asRoot = r.getD t .none := by
 unfold virtOf at h
 split at h
 ·split at h
  ·rename_i row hr
   split at h
   ·cases h
   ·cases h; exact ⟨rfl, _, rfl, hr.symm⟩
  ·cases h
 ·cases h
end Go.Proofs.Ytcpcghnpoekhpaa.A
/- The ghost machine, part 22b: a call is sound. -/
set_option linter.unusedSimpArgs false
set_option linter.unusedVariables false
set_option maxRecDepth 100000
set_option maxHeartbeats 4000000
namespace Go.Proofs.Ytcpcghnpoekhpaa.A
open Go Go.RowKit
variable {P : Program} {T : TT} {w w' w0 : World} {S S0 : Nat → Prop} {F : Fr} {bx : Nat → Nat} {ph : Nat → Nat → Pv} {a : Act} {st st' : St}
def plc (ts : List (Option Nat)) (t : Nat) : Option Nat := if some t ∈ ts then some (placeIn ts t) else none
theorem plc_some {ts : List (Option Nat)} {t k : Nat} (hd : distinct ts = true) (h : ts[k]? = some (some t)) : plc ts t = some k := by
 have hm : some t ∈ ts := List.mem_of_getElem? h
 unfold plc
 rw [if_pos hm]
 congr 1
 exact distinct_inj ts hd _ _ t (placeIn_get ts t hm) h
theorem plc_none {ts : List (Option Nat)} {t : Nat} (h : some t ∉ ts) : plc ts t = none := by unfold plc; rw [if_neg h]
theorem call_merge {st1 : St} {S1 S2 S3 : Nat → Prop} (h1 : Rel T w0 S0 F st1 a w S1 bx ph) (hsp : st1.r.getD st1.s.length .none = .none) {ts : List (Option Nat)} {R us : List Root} {ret : RV} {z : Value} {bx' : Nat → Nat} {ph' : Nat → Nat → Pv} {upd : List Root}
    (hd : distinct ts = true) (hN : some st1.s.length ∉ ts) (hfit : fitsR st1.r ts us = true) (hus : ∀ k, us.getD k .none = upd.getD k .none)
    (hg : Gives T w S2 R (fun k => bx (((ts[k]?).getD none).getD 0)) (fun k => ph (((ts[k]?).getD none).getD 0)) ret upd z w' S3 bx' ph')
    (hown : ∀ k κ b, owns R (fun k => bx (((ts[k]?).getD none).getD 0)) (fun k => ph (((ts[k]?).getD none).getD 0)) k κ b → ∃ t, ts[k]? = some (some t) ∧ owns st1.r bx ph t κ b)
    (hrow : ∀ o (ho : o < (ret.parts.flatMap (·.2)).length), RCRep T w' (fun b => S1 b ∨ (S3 b ∧ (w.heap.size ≤ b ∨ ∃ k κ, owns R (fun k => bx (((ts[k]?).getD none).getD 0)) (fun k => ph (((ts[k]?).getD none).getD 0)) k κ b))) (ph' 0 o) (ret.parts.flatMap (·.2))[o])
    (hupd : ∀ (k : Nat) (row : List RC), us[k]? = some (.box row) → ∀ o (ho : o < row.length), RCRep T w' (fun b => S1 b ∨ (S3 b ∧ (w.heap.size ≤ b ∨ ∃ k κ, owns R (fun k => bx (((ts[k]?).getD none).getD 0)) (fun k => ph (((ts[k]?).getD none).getD 0)) k κ b))) (ph' (k + 1) o) row[o]) :
    ∃ S4 ph2, Rel T w0 S0 F { s := kill (lostX ts) st1.s, r := (setRoots st1.r ts us).set st1.s.length (.loose (ret.parts.flatMap (·.2))) } a w' S4 bx ph2 ∧
      ((setRoots st1.r ts us).set st1.s.length (.loose (ret.parts.flatMap (·.2)))).getD st1.s.length .none = .loose (ret.parts.flatMap (·.2)) ∧ (∀ o, ph2 st1.s.length o = ph' 0 o) ∧ (∀ b, S4 b → S1 b ∨ S3 b) ∧
      (∀ t κ b, owns ((setRoots st1.r ts us).set st1.s.length (.loose (ret.parts.flatMap (·.2)))) bx ph2 t κ b → b < w.heap.size ∨ ∃ k κ', owns (.loose (ret.parts.flatMap (·.2)) :: upd) bx' ph' k κ' b) := by
  generalize hO : owns R (fun k => bx (((ts[k]?).getD none).getD 0)) (fun k => ph (((ts[k]?).getD none).getD 0)) = O at hown hrow hupd
  have hgm : ∀ t κ b, owns (.loose (ret.parts.flatMap (·.2)) :: upd) bx' ph' t κ b → w.heap.size ≤ b ∨ ∃ k κ, O k κ b := by subst hO; exact hg.mine
  have hgc : Chg (fun b => ∃ k κ, O k κ b) w w' := by subst hO; exact hg.chg
  obtain ⟨hul, huk⟩ := fits_get ts us hfit
  have hNr : st1.s.length < st1.r.length := by have := h1.rsize.1; omega
  have hlt : ∀ t, some t ∈ ts → t < st1.r.length := fun t ht => by
    obtain ⟨k, hk⟩ := List.getElem?_of_mem ht
    obtain ⟨row, row', _, h2, _⟩ := (huk k).1 t hk
    by_cases hh : t < st1.r.length
    · exact hh
    · rw [List.getD_eq_getElem?_getD, List.getElem?_eq_none (by omega)] at h2; cases h2
  have hg2 : ∀ v, ((setRoots st1.r ts us).set st1.s.length (.loose (ret.parts.flatMap (·.2)))).getD v .none = if v = st1.s.length then .loose (ret.parts.flatMap (·.2)) else (setRoots st1.r ts us).getD v .none := fun v => by
    rw [getD_set, setRoots_len]
    by_cases e1 : v = st1.s.length
    · subst e1; simp [hNr]
    · rw [if_neg (fun hh => e1 hh.1.symm), if_neg e1]
  let φ : Nat → Nat → Pv := fun t => if t = st1.s.length then ph' 0 else match plc ts t with | some k => ph' (k + 1) | none => ph t
  have hφN : φ st1.s.length = ph' 0 := if_pos rfl
  have hφT : ∀ t k, ts[k]? = some (some t) → φ t = ph' (k + 1) := fun t k hk => by
    have hne : t ≠ st1.s.length := fun e => hN (e ▸ List.mem_of_getElem? hk)
    show (if _ then _ else _) = _
    rw [if_neg hne, plc_some hd hk]
  have hφO : ∀ t, t ≠ st1.s.length → some t ∉ ts → φ t = ph t := fun t hne hm => by
    show (if _ then _ else _) = _
    rw [if_neg hne, plc_none hm]
  have hbxk : ∀ t k, ts[k]? = some (some t) → bx' (k + 1) = bx t := fun t k hk => by
    rw [hg.same k, hk]; rfl
  have hin : ∀ t k, ts[k]? = some (some t) → ∃ row row', us[k]? = some (.box row) ∧ st1.r.getD t .none = .box row' ∧ row.length = row'.length ∧ (setRoots st1.r ts us).getD t .none = .box row ∧ upd.getD k .none = .box row := fun t k hk => by
    obtain ⟨row, row', a1, a2, a3⟩ := (huk k).1 t hk
    refine ⟨row, row', a1, a2, a3, setRoots_in ts us st1.r hd hlt k t _ hk a1, ?_⟩
    rw [← hus k, List.getD_eq_getElem?_getD, a1]; rfl
  -- who owns what
  have hown2 : ∀ v κ b, owns ((setRoots st1.r ts us).set st1.s.length (.loose (ret.parts.flatMap (·.2)))) bx φ v κ b →
      (∃ k, (v = st1.s.length ∧ k = 0 ∨ ∃ j, k = j + 1 ∧ ts[j]? = some (some v)) ∧ owns (.loose (ret.parts.flatMap (·.2)) :: upd) bx' ph' k κ b) ∨ (v ≠ st1.s.length ∧ some v ∉ ts ∧ owns st1.r bx ph v κ b) := fun v κ b hb => by
    by_cases e1 : v = st1.s.length
    · subst e1
      refine .inl ⟨0, .inl ⟨rfl, rfl⟩, ?_⟩
      cases κ with
      | none => obtain ⟨row', k1, _⟩ := owns_box hb; rw [hg2, if_pos rfl] at k1; cases k1
      | some o =>
        obtain ⟨rc, k1, k2⟩ := owns_cell hb
        rw [hg2, if_pos rfl] at k1
        rw [hφN] at k2
        exact own_blk (r := .loose (ret.parts.flatMap (·.2)) :: upd) (t := 0) k1 k2
    · by_cases e2 : some v ∈ ts
      · obtain ⟨j, hj⟩ := List.getElem?_of_mem e2
        refine .inl ⟨j + 1, .inr ⟨j, rfl, hj⟩, ?_⟩
        obtain ⟨row, row', a1, a2, a3, a4, a5⟩ := hin v j hj
        unfold owns at hb ⊢
        rw [hg2, if_neg e1, a4, hφT v j hj] at hb
        rw [List.getD_cons_succ, a5]
        cases κ with
        | none => rw [hbxk v j hj]; exact hb
        | some o => exact hb
      · refine .inr ⟨e1, e2, ?_⟩
        unfold owns at hb ⊢
        rw [hg2, if_neg e1, setRoots_out ts us st1.r v e2, hφO v e1 e2] at hb
        exact hb
  have hOlt : ∀ k κ b, O k κ b → b < w.heap.size := fun k κ b hb => by
    obtain ⟨t, _, h3⟩ := hown k κ b hb; exact (h1.heap.free t κ b h3).2
  have hOout : ∀ v κ b, owns st1.r bx ph v κ b → some v ∉ ts → ¬ ∃ k κ, O k κ b := fun v κ b hb hv ⟨k, κ', ho⟩ => by
    obtain ⟨t, h2, h3⟩ := hown k κ' b ho
    obtain ⟨e, _⟩ := h1.heap.inj _ _ _ _ b hb h3
    subst e; exact hv (List.mem_of_getElem? h2)
  have hS1keep : ∀ b, S1 b → w'.heap[b]? = w.heap[b]? := fun b hb => hgc.block b (h1.heap.low.1 b hb) fun ⟨k, κ, ho⟩ => by
    obtain ⟨t, _, h3⟩ := hown k κ b ho; exact (h1.heap.free t κ b h3).1 hb
  have hOkeep : ∀ v κ b, owns st1.r bx ph v κ b → some v ∉ ts → w'.heap[b]? = w.heap[b]? := fun v κ b hb hv => hgc.block b (h1.heap.free v κ b hb).2 (hOout v κ b hb hv)
  -- roots with the same place
  have hplace : ∀ {v v2 k : Nat}, (v = st1.s.length ∧ k = 0 ∨ ∃ j, k = j + 1 ∧ ts[j]? = some (some v)) → (v2 = st1.s.length ∧ k = 0 ∨ ∃ j, k = j + 1 ∧ ts[j]? = some (some v2)) → v = v2 := fun h2 h3 => by
    rcases h2 with ⟨rfl, rfl⟩ | ⟨j, rfl, hj⟩ <;> rcases h3 with ⟨rfl, h4⟩ | ⟨j', h4, hj'⟩
    · rfl
    · omega
    · omega
    · have : j = j' := by omega
      subst this
      rw [hj] at hj'; cases hj'; rfl
  refine ⟨fun b => S1 b ∨ (S3 b ∧ (w.heap.size ≤ b ∨ ∃ k κ, O k κ b)), φ, ⟨by simp [kill, h1.size], ⟨by simp only [kill, List.length_map, List.length_set, setRoots_len]; exact h1.rsize.1, fun t ht => h1.rsize.2 t (by simpa [kill] using ht)⟩, h1.defers,
    ⟨fun v => ?_, fun v κ v2 κ2 b b1 b2 => ?_, fun v κ b b1 => ?_, ⟨fun b hb => ?_, h1.heap.low.2.frame hS1keep (fun _ h => .inl h)⟩⟩, fun v κ b b1 => ?_, ?_, fun b hb => .inl (h1.keep b hb), fun b hb => ?_, ?_⟩, by rw [hg2, if_pos rfl], (fun o => by rw [hφN]), (fun b hb => hb.imp id And.left), (fun v κ b hb => by
      rcases hown2 v κ b hb with ⟨k, _, c1⟩ | ⟨_, _, c1⟩
      · exact .inr ⟨k, κ, c1⟩
      · exact .inl (h1.heap.free v κ b c1).2)⟩
  · show RootRep T w' _ (bx v) (φ v) (((setRoots st1.r ts us).set st1.s.length (.loose (ret.parts.flatMap (·.2)))).getD v .none)
    rw [hg2]
    by_cases e1 : v = st1.s.length
    · rw [if_pos e1, e1, hφN]; exact hrow
    · rw [if_neg e1]
      by_cases e2 : some v ∈ ts
      · obtain ⟨j, hj⟩ := List.getElem?_of_mem e2
        obtain ⟨row, row', a1, a2, a3, a4, a5⟩ := hin v j hj
        rw [a4, hφT v j hj, ← hbxk v j hj]
        have hr := hg.heap.root (j + 1)
        rw [List.getD_cons_succ, a5] at hr
        exact ⟨hr.1, fun o ho => hupd j row a1 o ho, hr.2.2⟩
      · rw [setRoots_out ts us st1.r v e2, hφO v e1 e2]
        refine (h1.heap.root v).frame2 hS1keep (fun _ h => .inl h) (fun row hR => hOkeep v none _ (owns_of_box hR) e2) fun o rc b hrc hb => hOkeep v (some o) b (own_blk hrc hb) e2
  · rcases hown2 v κ b b1 with ⟨k, hk, c1⟩ | ⟨n1, n2, c1⟩ <;> rcases hown2 v2 κ2 b b2 with ⟨k2, hk2, c2⟩ | ⟨m1, m2, c2⟩
    · obtain ⟨e1, e2⟩ := hg.heap.inj _ _ _ _ b c1 c2
      subst e1
      exact ⟨hplace hk hk2, e2⟩
    · rcases hgm _ _ b c1 with h3 | h3
      · exact absurd (h1.heap.free _ _ b c2).2 (by omega)
      · exact absurd h3 (hOout _ _ b c2 m2)
    · rcases hgm _ _ b c2 with h3 | h3
      · exact absurd (h1.heap.free _ _ b c1).2 (by omega)
      · exact absurd h3 (hOout _ _ b c1 n2)
    · exact h1.heap.inj _ _ _ _ b c1 c2
  · rcases hown2 v κ b b1 with ⟨k, hk, c1⟩ | ⟨n1, n2, c1⟩
    · have hf := hg.heap.free _ _ b c1
      refine ⟨fun hs => ?_, hf.2⟩
      rcases hs with hs | hs
      · rcases hgm _ _ b c1 with h3 | ⟨k', κ', h3⟩
        · exact absurd (h1.heap.low.1 b hs) (by omega)
        · obtain ⟨t, _, h4⟩ := hown _ _ _ h3
          exact (h1.heap.free _ _ b h4).1 hs
      · exact hf.1 hs.1
    · have hf := h1.heap.free _ _ b c1
      refine ⟨fun hs => ?_, Nat.lt_of_lt_of_le hf.2 hgc.size⟩
      rcases hs with hs | ⟨_, hs | hs⟩
      · exact hf.1 hs
      · omega
      · exact hOout _ _ b c1 n2 hs
  · rcases hb with hb | hb
    · exact Nat.lt_of_lt_of_le (h1.heap.low.1 b hb) hgc.size
    · exact hg.heap.low.1 b hb.1
  · rcases hown2 v κ b b1 with ⟨k, hk, c1⟩ | ⟨n1, n2, c1⟩
    · rcases hgm _ _ b c1 with h3 | ⟨k', κ', h3⟩
      · exact .inl (Nat.le_trans h1.chg.size h3)
      · obtain ⟨t, _, h4⟩ := hown _ _ _ h3
        exact h1.mine _ _ b h4
    · exact h1.mine _ _ b c1
  · refine slots_map (fun x => if lostX ts x then .undef else x) (fun v x hx => ?_) h1.slot
    split
    · trivial
    · rename_i hl
      have hl' : lostX ts x = false := by simpa using hl
      refine (hx.frame hS1keep (fun _ h => .inl h)).congr (fun t o rc hc ho hv => ?_) (fun t o he row hv hp => ?_) (fun f caps he t ht row hv => ?_)
      · have n1 : t ≠ st1.s.length := fun e1 => by subst e1; rw [hsp] at hv; simp [Root.row] at hv
        have n2 := lost_cell hl' hc
        refine ⟨?_, by rw [hφO t n1 n2]⟩
        show (((setRoots st1.r ts us).set st1.s.length (.loose (ret.parts.flatMap (·.2)))).getD t .none).row[o]? = _
        rw [hg2, if_neg n1, setRoots_out ts us st1.r t n2]; exact hv
      · have n1 : t ≠ st1.s.length := fun e1 => by subst e1; rw [hsp] at hv; cases hv
        by_cases e2 : some t ∈ ts
        · obtain ⟨j, hj⟩ := List.getElem?_of_mem e2
          obtain ⟨row2, row', a1, a2, a3, a4, a5⟩ := hin t j hj
          rw [hv] at a2; cases a2
          exact ⟨row2, by show ((setRoots st1.r ts us).set st1.s.length _).getD t .none = _; rw [hg2, if_neg n1]; exact a4, by omega, rfl⟩
        · exact ⟨row, by show ((setRoots st1.r ts us).set st1.s.length _).getD t .none = _; rw [hg2, if_neg n1, setRoots_out ts us st1.r t e2]; exact hv, hp, rfl⟩
      · have n1 : t ≠ st1.s.length := fun e1 => by subst e1; rw [hsp] at hv; cases hv
        by_cases e2 : some t ∈ ts
        · obtain ⟨j, hj⟩ := List.getElem?_of_mem e2
          obtain ⟨row2, row', a1, a2, a3, a4, a5⟩ := hin t j hj
          rw [hv] at a2; cases a2
          exact ⟨row2, by show ((setRoots st1.r ts us).set st1.s.length _).getD t .none = _; rw [hg2, if_neg n1]; exact a4, a3, rfl⟩
        · exact ⟨row, by show ((setRoots st1.r ts us).set st1.s.length _).getD t .none = _; rw [hg2, if_neg n1, setRoots_out ts us st1.r t e2]; exact hv, rfl, rfl⟩
  · rcases hb with hb | ⟨hb, h3 | ⟨k, κ, h3⟩⟩
    · exact h1.new b hb
    · exact .inr (.inl (Nat.le_trans h1.chg.size h3))
    · obtain ⟨t, _, h4⟩ := hown _ _ _ h3
      exact .inr (h1.mine _ _ b h4)
  · refine ⟨hgc.os.trans h1.chg.os, hgc.tape.trans h1.chg.tape, hgc.output.trans h1.chg.output, Nat.le_trans h1.chg.size hgc.size, fun b hb hF => ?_⟩
    rw [hgc.block b (Nat.lt_of_lt_of_le hb h1.chg.size) fun ⟨k, κ, ho⟩ => by
      obtain ⟨t, _, h4⟩ := hown _ _ _ ho
      rcases h1.mine _ _ b h4 with h5 | h5
      · omega
      · exact hF h5]
    exact h1.chg.block b hb hF
theorem fitsR_congr {r r' : List Root} : ∀ (ts : List (Option Nat)) (us : List Root), (∀ t, some t ∈ ts → r'.getD t .none = r.getD t .none) → fitsR r' ts us = fitsR r ts us := by
 intro ts
 induction ts with
 | nil => intro us _; cases us <;> rfl
 | cons x ts ih =>
  intro us h
  have ih' := ih us.tail (fun t ht => h t (List.mem_cons_of_mem _ ht))
  cases us with
  | nil => cases x <;> rfl
  | cons u us =>
   cases x with
   | none => cases u <;> first | rfl | exact ih'
   | some t =>
    cases u with
    | none => rfl
    | loose _ => rfl
    | box row =>
     have e := h t (List.mem_cons_self ..)
     simp only [fitsR, rootOf, e]
     rw [show fitsR r' ts us = fitsR r ts us from ih']
theorem plain_rep {S' : Nat → Prop} {v : Pv} {rc : RC} (h : RCRep T w S v rc) (h2 : RC.slicy T rc = false) (h3 : RC.plainObl (std P T) rc) : RCRep T w S' v rc := by
 cases rc with
 | st c =>
  cases c with
  | val u => obtain ⟨q1, q2⟩ := crep_val h; show CRep w S' v.v _; rw [q1]; exact CRep.val q2
  | sl n cells => simp [RC.slicy] at h2
  | nil => simp [RC.slicy] at h2
  | mem cells off => simp [RC.slicy] at h2
  | map kk ks vs => simp [RC.slicy] at h2
 | own e n cells =>
  obtain ⟨xs, x1, x2, x3⟩ := h
  refine ⟨xs, x1, x2, fun k hk hk2 => ?_⟩
  obtain ⟨v, hv⟩ := h3 cells[k] (List.getElem_mem hk)
  have := x3 k hk hk2
  rw [hv] at this ⊢
  obtain ⟨q1, q2⟩ := crep_val this
  rw [q1]; exact CRep.val q2
 | map kk m => simp [RC.slicy] at h2
 | tree sh c p => simp [RC.slicy] at h2
 | me f => trivial
 | dead => trivial
theorem tsOf_get {args : List V} {k : Nat} (h : k < args.length) : (tsOf args)[k]? = some (ptrOf args[k]) := by
 unfold tsOf
 rw [List.getElem?_append_left (by simpa using h)]; simp [h]
theorem call_sound (h : Rel T w0 S0 F st a w S bx ph) (hsp : st.r.getD st.s.length .none = .none) {f : FuncId} {vs : List Value} {args : List V} {cr : RV × List Root} {vf : Nat → V} {st1 : St} {obl : List Prop}
    (hl : vs.length = args.length) (hv : ∀ k (h1 : k < args.length) (h2 : k < vs.length), VRep T w S st.r bx ph vs[k] args[k])
    (hp : callOp T (std P T) st f args cr = some (vf, st1, obl)) (ho : ∀ p ∈ obl, p) {dst : Option Nat} (hdst : ∀ k, dst = some k → k < st.s.length) :
    Enters P f ∧ Calls P f vs.toArray w fun e w' => ∃ z, e = .returned z ∧ Rels T w0 S0 F (fin st1 dst vf) (a.put dst z) w' ∧ ((tsOf args).all Option.isNone = true → Old w w') := by
  unfold callOp at hp
  dsimp only at hp
  generalize hts : tsOf args = ts at hp
  split at hp
  · rename_i as9 vts has hvs
    generalize hus : (if cr.2.isEmpty then ts.map fun _ => Root.none else cr.2) = us at hp
    split at hp
    · rename_i hcond
      simp only [Bool.and_eq_true, Bool.not_eq_true'] at hcond
      obtain ⟨⟨hd, hfit⟩, hN⟩ := hcond
      have hN' : some st.s.length ∉ ts := fun hm => by rw [List.contains_iff_mem.2 hm] at hN; cases hN
      have has2 := optAll_some _ _ has
      have hal : as9.length = args.length := by have := congrArg List.length has2; simpa using this.symm
      have hargs : ∀ k (h1 : k < as9.length) (h2 : k < args.length), argOf T (std P T) st.r ts args[k] = some as9[k] := fun k h1 h2 => by
        have := congrArg (fun l => l[k]?) has2
        simpa only [List.getElem?_map, List.getElem?_eq_getElem h1, List.getElem?_eq_getElem h2, Option.map_some, Option.some.injEq] using this
      have hvs2 := optAll_some _ _ hvs
      have hvl : vts.length = (ts.drop args.length).length := by have := congrArg List.length hvs2; simpa using this.symm
      have hvirt : ∀ k (h1 : k < vts.length) (h2 : k < (ts.drop args.length).length), virtOf st.r (ts.drop args.length)[k] = some vts[k] := fun k h1 h2 => by
        have := congrArg (fun l => l[k]?) hvs2
        simpa only [List.getElem?_map, List.getElem?_eq_getElem h1, List.getElem?_eq_getElem h2, Option.map_some, Option.some.injEq] using this
      have htl : args.length ≤ ts.length := by rw [← hts]; unfold tsOf; simp
      have htk : ∀ k (h1 : k < args.length), ts[k]? = some (ptrOf args[k]) := fun k h1 => by rw [← hts]; exact tsOf_get h1
      -- the frozen state
      obtain ⟨S', hf, hcr⟩ := freezeAll_sound (P := P) ((args.flatMap cellsOfV).filter fun x => !handed ts x) h
      generalize hstf : ((args.flatMap cellsOfV).filter fun x => !handed ts x).foldl (freezeX T (std P T)) st = stf at hf hp
      have hother : ∀ t, some t ∈ ts → stf.r.getD t .none = st.r.getD t .none := fun t ht => by
        rw [← hstf]
        refine freezeAll_other _ _ fun x hx he => ?_
        have := (List.mem_filter.1 hx).2
        simp only [handed, he, List.contains_iff_mem.2 ht, Bool.not_true, Bool.false_eq_true] at this
      -- the callee's roots
      have hR : ∀ k, ((as9 ++ vts).map Arg.asRoot).getD k .none = match (ts[k]?).getD none with | some t => stf.r.getD t .none | none => .none := fun k => by
        rw [List.getD_eq_getElem?_getD, List.getElem?_map]
        by_cases h1 : k < args.length
        · rw [List.getElem?_append_left (by omega), List.getElem?_eq_getElem (show k < as9.length by omega), htk k h1]
          have h2 := (arg_root (hargs k (by omega) h1)).2
          simp only [Option.map_some, Option.getD_some]
          rw [h2]
          cases hpt : ptrOf args[k] with
          | none => rfl
          | some t =>
            dsimp only
            exact (hother t (by rw [← hpt]; exact List.mem_of_getElem? (htk k h1))).symm
        · rw [List.getElem?_append_right (by omega), hal]
          by_cases h2 : k - args.length < vts.length
          · have h3 : k - args.length < (ts.drop args.length).length := by omega
            rw [List.getElem?_eq_getElem h2]
            obtain ⟨_, t, h4, h5⟩ := virt_root (hvirt _ h2 h3)
            have h6 : ts[k]? = some (some t) := by
              have : (ts.drop args.length)[k - args.length]? = some (some t) := by rw [List.getElem?_eq_getElem h3, h4]
              rw [List.getElem?_drop] at this
              rwa [show args.length + (k - args.length) = k by omega] at this
            rw [h6]
            simp only [Option.map_some, Option.getD_some]
            rw [h5]
            exact (hother t (List.mem_of_getElem? h6)).symm
          · rw [List.getElem?_eq_none (by omega), List.getElem?_eq_none (by simp at hvl; omega)]
            rfl
      have hinj : ∀ k k' t : Nat, (ts[k]?).getD none = some t → (ts[k']?).getD none = some t → k = k' := fun k k' t a1 a2 => by
        have key : ∀ k : Nat, (ts[k]?).getD none = some t → ts[k]? = some (some t) := fun k hk => by
          cases hq : ts[k]? with
          | none => rw [hq] at hk; cases hk
          | some x => rw [hq] at hk; exact congrArg some hk
        exact distinct_inj ts hd _ _ t (key k a1) (key k' a2)
      obtain ⟨hsub, hsown⟩ := hf.rel.heap.sub (τ := fun k => (ts[k]?).getD none) hR hinj
      have hreal : reals (as9 ++ vts) = vs.length := by
        unfold reals
        rw [List.filter_append, List.filter_eq_self.2 (fun x hx => ?_), List.filter_eq_nil_iff.2 (fun x hx => ?_), List.append_nil, hal, hl]
        · obtain ⟨k, hk, rfl⟩ := List.mem_iff_getElem.1 hx
          rw [(virt_root (hvirt k hk (by omega))).1]; simp
        · obtain ⟨k, hk, rfl⟩ := List.mem_iff_getElem.1 hx
          exact (arg_root (hargs k hk (by omega))).1
      have hrep : ∀ i (h1 : i < (as9 ++ vts).length) (h2 : i < vs.length), ArgRep w S' (fun k => bx (((ts[k]?).getD none).getD 0)) (bx (((ts[i]?).getD none).getD 0)) vs[i] (as9 ++ vts)[i] := fun i h1 h2 => by
        have h3 : i < args.length := by omega
        rw [List.getElem_append_left (show i < as9.length by omega)]
        refine arg_sound (ts := ts) (bxs := fun k => bx (((ts[k]?).getD none).getD 0)) (k := i) (hv i h3 h2) (hargs i (by omega) h3) (fun j t hj => by simp [hj]) (fun t ht => ?_) (fun t ht => ?_) (fun y hy hh u c hu hc => ?_)
        · rw [← hts]; exact caps_in (List.mem_flatMap.2 ⟨_, List.getElem_mem h3, ht⟩)
        · rw [htk i h3, ht]
        · exact hcr y (List.mem_filter.2 ⟨List.mem_flatMap.2 ⟨_, List.getElem_mem h3, hy⟩, by simp [hh]⟩) u c hu hc
      have hown1 : ∀ k κ b, owns ((as9 ++ vts).map Arg.asRoot) (fun k => bx (((ts[k]?).getD none).getD 0)) (fun k => ph (((ts[k]?).getD none).getD 0)) k κ b → ∃ t, ts[k]? = some (some t) ∧ owns stf.r bx ph t κ b := fun k κ b hb => by
        obtain ⟨t, h1, h2⟩ := hsown k κ b hb
        refine ⟨t, ?_, h2⟩
        have h1' : (ts[k]?).getD none = some t := h1
        cases hq : ts[k]? with
        | none => rw [hq] at h1'; cases h1'
        | some x => rw [hq] at h1'; exact congrArg some h1'
      have hcall : ∀ {Q : Ending → World → Prop}, PC P T f (as9 ++ vts) cr.1 cr.2 → (∀ z w' S'' bx' ph', Gives T w S' ((as9 ++ vts).map Arg.asRoot) (fun k => bx (((ts[k]?).getD none).getD 0)) (fun k => ph (((ts[k]?).getD none).getD 0)) cr.1 cr.2 z w' S'' bx' ph' → Q (.returned z) w') → Calls P f vs.toArray w Q := fun hpc hQ =>
        (hpc w S' _ _ vs hsub hreal.symm (fun i h1 h2 => hrep i h1 h2)).mono fun e w' ⟨v, S'', bx', ph', he, hg⟩ => by subst he; exact hQ v w' S'' bx' ph' hg
      have husg : ∀ k, us.getD k .none = cr.2.getD k .none := fun k => by
        rw [← hus]
        split
        · rename_i he
          rw [List.isEmpty_iff.1 he]
          simp only [List.getD_eq_getElem?_getD, List.getElem?_map]
          cases ts[k]? <;> rfl
        · rfl
      have hold : ∀ {z w' S'' bx' ph'}, Gives T w S' ((as9 ++ vts).map Arg.asRoot) (fun k => bx (((ts[k]?).getD none).getD 0)) (fun k => ph (((ts[k]?).getD none).getD 0)) cr.1 cr.2 z w' S'' bx' ph' → ts.all Option.isNone = true → Old w w' := fun hg hall b hb => hg.chg.block b hb fun ⟨k, κ, hk⟩ => by
        obtain ⟨t, h1, _⟩ := hown1 k κ b hk
        have := List.all_eq_true.1 hall _ (List.mem_of_getElem? h1)
        cases this
      have hfinal : ∀ {st2 : St} {S1 : Nat → Prop}, Rel T w0 S0 F st2 a w S1 bx ph → st2.s.length = st.s.length → st2.r.getD st.s.length .none = .none → fitsR st2.r ts us = true →
          (∀ k κ b, owns ((as9 ++ vts).map Arg.asRoot) (fun k => bx (((ts[k]?).getD none).getD 0)) (fun k => ph (((ts[k]?).getD none).getD 0)) k κ b → ∃ t, ts[k]? = some (some t) ∧ owns st2.r bx ph t κ b) →
          ∀ {z w' S'' bx' ph'}, Gives T w S' ((as9 ++ vts).map Arg.asRoot) (fun k => bx (((ts[k]?).getD none).getD 0)) (fun k => ph (((ts[k]?).getD none).getD 0)) cr.1 cr.2 z w' S'' bx' ph' →
          (∀ rc ∈ (cr.1.parts.flatMap (·.2)) ++ us.flatMap Root.row, ∀ v, RCRep T w' S'' v rc → RCRep T w' (fun b => S1 b ∨ (S'' b ∧ (w.heap.size ≤ b ∨ ∃ k κ, owns ((as9 ++ vts).map Arg.asRoot) (fun k => bx (((ts[k]?).getD none).getD 0)) (fun k => ph (((ts[k]?).getD none).getD 0)) k κ b))) v rc) →
          Rels T w0 S0 F (fin { s := kill (lostX ts) st2.s, r := (setRoots st2.r ts us).set st.s.length (.loose (cr.1.parts.flatMap (·.2))) } dst (fun d => retV d cr.1)) (a.put dst z) w' := by
        intro st2 S1 h2 hlen hsp2 hfit2 hown2 z w' S'' bx' ph' hg hcells
        have hmerge := call_merge h2 (by rw [hlen]; exact hsp2) (ret := cr.1) hd (by rw [hlen]; exact hN') hfit2 husg hg hown2
          (fun o ho => hcells _ (List.mem_append_left _ (List.getElem_mem ho)) _ (hg.heap.root 0 o ho))
          (fun k row hk o ho => by
            have h3 := hg.heap.root (k + 1)
            rw [List.getD_cons_succ, ← husg k, List.getD_eq_getElem?_getD, hk] at h3
            exact hcells _ (List.mem_append_right _ (List.mem_flatMap.2 ⟨_, List.mem_of_getElem? hk, List.getElem_mem ho⟩)) _ (h3.2.1 o ho))
        rw [hlen] at hmerge
        obtain ⟨S4, ph2, h5, h6, h7, _, _⟩ := hmerge
        have hkl : (kill (lostX ts) st2.s).length = st.s.length := by simp [kill, hlen]
        refine fin_sound h5 (fun k hk => by show k < (kill (lostX ts) st2.s).length; rw [hkl]; exact hdst k hk) (fun k bx2 ph3 hk e1 e2 e3 hheap => ?_)
        have e1' : ∀ o, ph3 k o = ph2 st.s.length o := fun o => by rw [e1 o]; show ph2 (kill (lostX ts) st2.s).length o = _; rw [hkl]
        have e3' := e3
        rw [show ({ s := kill (lostX ts) st2.s, r := (setRoots st2.r ts us).set st.s.length (.loose (cr.1.parts.flatMap (·.2))) } : St).s.length = st.s.length from hkl] at e3'
        refine retV_sound (row := cr.1.parts.flatMap (·.2)) (φ := ph' 0) rfl (fun o rc hrc => ?_) hg.val
        have e5 := e3'.trans h6
        have h9 : ph3 k o = ph' 0 o := by rw [e1' o, h7 o]
        rw [← h9]
        refine rcX_sound (st := name { s := kill (lostX ts) st2.s, r := (setRoots st2.r ts us).set st.s.length (.loose (cr.1.parts.flatMap (·.2))) } k) hheap ?_
        rw [e5]; exact hrc
      split at hp
      · simp only [Option.some.injEq, Prod.mk.injEq] at hp
        obtain ⟨rfl, rfl, rfl⟩ := hp
        obtain ⟨hen, hpc⟩ : Enters P f ∧ PC P T f (as9 ++ vts) cr.1 cr.2 := ho _ (List.mem_cons_self ..)
        refine ⟨hen, hcall hpc fun z w' S'' bx' ph' hg => ⟨z, rfl, ?_, hold hg⟩⟩
        refine hfinal hf.rel hf.len (hf.spare _ hsp) (by rw [fitsR_congr ts us hother]; exact hfit) hown1 hg fun rc _ v hrc => hrc.frame (fun _ _ => rfl) (fun b hb => ?_) (fun _ _ => rfl)
        rcases hg.new b hb with h1 | h1 | h1
        · exact .inl h1
        · exact .inr ⟨hb, .inl h1⟩
        · exact .inr ⟨hb, .inr h1⟩
      · rename_i hns
        simp only [Option.some.injEq, Prod.mk.injEq] at hp
        obtain ⟨rfl, rfl, rfl⟩ := hp
        obtain ⟨hen, hpc⟩ : Enters P f ∧ PC P T f (as9 ++ vts) cr.1 cr.2 := ho _ (List.mem_cons_self ..)
        refine ⟨hen, hcall hpc fun z w' S'' bx' ph' hg => ⟨z, rfl, ?_, hold hg⟩⟩
        refine hfinal h rfl hsp hfit (fun k κ b hb => ?_) hg fun rc hrc v hv' => plain_rep (P := P) hv' ?_ (ho _ (List.mem_cons_of_mem _ (List.mem_map.2 ⟨rc, hrc, rfl⟩)))
        · obtain ⟨t, h1, h2⟩ := hown1 k κ b hb
          refine ⟨t, h1, ?_⟩
          unfold owns at h2 ⊢
          rw [hother t (List.mem_of_getElem? h1)] at h2
          exact h2
        · cases hh : RC.slicy T rc with
          | false => rfl
          | true => exact absurd (List.any_eq_true.2 ⟨_, hrc, hh⟩) hns
    · cases hp
  · cases hp
end Go.Proofs.Ytcpcghnpoekhpaa.A
/- The ghost machine, part 22c: calls that turn a slice of one's own. -/
set_option linter.unusedSimpArgs false
set_option linter.unusedVariables false
set_option maxRecDepth 100000
set_option maxHeartbeats 4000000
namespace Go.Proofs.Ytcpcghnpoekhpaa.A
open Go Go.RowKit
variable {P : Program} {T : TT} {w w' w0 : World} {S S0 : Nat → Prop} {F : Fr} {bx : Nat → Nat} {ph : Nat → Nat → Pv} {a : Act} {st st' : St}
theorem cell_reword (hf : Rel T w0 S0 F st a w S bx ph) {t o : Nat} {rc rc' : RC} (hc : (st.r.getD t .none).row[o]? = some rc) (hb : rc'.blk (ph t o) = rc.blk (ph t o))
  (k1 : ∀ e n cells, rc = .own e n cells → ∃ cells', rc' = .own e n cells') (k2 : ∀ kk m, rc = .map kk m → ∃ kk' m', rc' = .map kk' m') (k3 : ∀ sh c p, rc = .tree sh c p → ∃ c' p', rc' = .tree sh c' p') (hnew : RCRep T w S (ph t o) rc') (hme : rc'.isMe = false := by rfl) :
  Rel T w0 S0 F { st with r := setCellR st.r t o rc' } a w S bx ph := by
 have hin : o < (st.r.getD t .none).row.length := (List.getElem?_eq_some_iff.1 hc).1
 have hown' : ∀ u κ b, owns (setCellR st.r t o rc') bx ph u κ b → owns st.r bx ph u κ b := fun u κ b hb' => by
  cases κ with
  | none =>
   obtain ⟨row, h1, rfl⟩ := owns_box hb'
   rw [getD_setCell] at h1
   split at h1
   ·rename_i e1; subst e1
    cases hR : st.r.getD t .none with
    | box row' => exact owns_of_box hR
    | none => rw [hR] at h1; cases h1
    | loose row' => rw [hR] at h1; cases h1
   ·exact owns_of_box h1
  | some p =>
   obtain ⟨rc1, h1, h2⟩ := owns_cell hb'
   rw [row_setCell] at h1
   split at h1
   ·rename_i e2; subst e2
    rw [List.getElem?_set] at h1
    split at h1
    ·rename_i e3; subst e3
     cases h1
     exact own_blk hc (by rw [← hb]; exact h2)
    ·exact own_blk h1 h2
   ·exact own_blk h1 h2
 refine ⟨hf.size, ⟨by rw [length_setCell]; exact hf.rsize.1, hf.rsize.2⟩, hf.defers, ⟨fun u => ?_, fun t κ t2 κ2 b h1 h2 => hf.heap.inj _ _ _ _ b (hown' _ _ _ h1) (hown' _ _ _ h2), fun t κ b h1 => hf.heap.free _ _ _ (hown' _ _ _ h1), hf.heap.low⟩,
  fun t κ b h1 => hf.mine _ _ _ (hown' _ _ _ h1), fun i hi => (hf.slot i hi).mono fun v y hy => ?_, hf.keep, hf.new, hf.chg⟩
 ·rw [getD_setCell]
  split
  ·rename_i e1; subst e1; exact (hf.heap.root t).setCell (fun _ => hnew) hme
  ·exact hf.heap.root u
 ·have key : ∀ t2 o2 rc2, (st.r.getD t2 .none).row[o2]? = some rc2 → ((setCellR st.r t o rc').getD t2 .none).row[o2]? = some rc2 ∨ (rc2 = rc ∧ ((setCellR st.r t o rc').getD t2 .none).row[o2]? = some rc') := fun t2 o2 rc2 h1 => by
   rw [row_setCell]
   split
   ·rename_i e3; subst e3
    rw [List.getElem?_set]
    split
    ·rename_i e4; subst e4
     rw [hc] at h1; cases h1
     exact .inr ⟨rfl, rfl⟩
    ·exact .inl h1
   ·exact .inl h1
  refine hy.congr2 (fun t2 o2 e2 n2 c2 h1 => ?_) (fun t2 o2 kk m h1 => ?_) (fun t2 o2 sh2 c2 p2 h1 => ?_) (fun t2 row h1 => box_setCell h1)
  ·rcases key t2 o2 _ h1 with h2 | ⟨h3, h2⟩
   ·exact ⟨_, h2⟩
   ·obtain ⟨cells', rfl⟩ := k1 _ _ _ h3.symm
    exact ⟨cells', h2⟩
  ·rcases key t2 o2 _ h1 with h2 | ⟨h3, h2⟩
   ·exact ⟨_, _, h2⟩
   ·obtain ⟨kk', m', rfl⟩ := k2 _ _ h3.symm
    exact ⟨kk', m', h2⟩
  ·rcases key t2 o2 _ h1 with h2 | ⟨h3, h2⟩
   ·exact ⟨_, _, h2⟩
   ·obtain ⟨c', p', rfl⟩ := k3 _ _ _ h3.symm
    exact ⟨c', p', h2⟩
theorem fnOf_sound {r : List Root} : ∀ (rest : List V) (gs : List FuncId) (vs : List Value), optAll (rest.map fnOf) = some gs → vs.length = rest.length → (∀ k (h1 : k < rest.length) (h2 : k < vs.length), VRep T w S r bx ph vs[k] rest[k]) →
  vs = gs.map fun g => Value.func (.func g) #[] #[] := by
 intro rest gs vs h hl hv
 have h2 := optAll_some _ _ h
 have hlen : rest.length = gs.length := by have := congrArg List.length h2; simpa using this
 apply List.ext_getElem
 ·simp [hl, hlen]
 ·intro k h3 h4
  have hk : k < rest.length := by omega
  have hk2 : k < gs.length := by omega
  have h5 := congrArg (fun l => l[k]?) h2
  simp only [List.getElem?_map, List.getElem?_eq_getElem hk, List.getElem?_eq_getElem hk2, Option.map_some, Option.some.injEq] at h5
  have h6 := hv k hk h3
  unfold fnOf at h5
  split at h5
  ·rename_i f he
   cases h5
   rw [he] at h6
   rw [List.getElem_map]
   exact h6.1
  ·cases h5
theorem ownCall_sound (h : Rel T w0 S0 F st a w S bx ph) (hsp : st.r.getD st.s.length .none = .none) {f : FuncId} {v : Value} {vs : List Value} {x : V} {rest : List V} {cr : RV × List Root} {vf : Nat → V} {st1 : St} {obl : List Prop}
    (hx : VRep T w S st.r bx ph v x) (hl : vs.length = rest.length) (hv : ∀ k (h1 : k < rest.length) (h2 : k < vs.length), VRep T w S st.r bx ph vs[k] rest[k])
    (hp : ownCall (std P T) st f x rest cr = some (vf, st1, obl)) (ho : ∀ p ∈ obl, p) {dst : Option Nat} (hdst : ∀ k, dst = some k → k < st.s.length) :
    Enters P f ∧ Calls P f (v :: vs).toArray w fun e w' => ∃ z, e = .returned z ∧ Rels T w0 S0 F (fin st1 dst vf) (a.put dst z) w' := by
  unfold ownCall at hp
  split at hp
  · rename_i t o e n' cs' gs hcr hgs
    obtain ⟨e1, n1, cells1, hc1, rfl⟩ := hx
    have hvs := fnOf_sound rest gs vs hgs hl hv
    split at hp
    · rename_i e0 n cells hown
      have hc := ownAt_eq hown
      split at hp
      · rename_i hcond
        obtain ⟨rfl, hne⟩ := hcond
        have hlow := h.heap.low.1
        have hrc := h.heap.cell hc
        have hfree : ∀ b, (ph t o).v.ownBlock = some b → ¬ S b ∧ b < w.heap.size := fun b hb => h.heap.free t (some o) b (own_blk hc hb)
        split at hp
        · simp only [Option.some.injEq, Prod.mk.injEq] at hp
          obtain ⟨rfl, rfl, rfl⟩ := hp
          obtain ⟨hen, hpc⟩ : Enters P f ∧ PCO P T f e0 n cells gs false n cs' := ho _ (List.mem_cons_self ..)
          refine ⟨hen, ?_⟩
          rw [hvs]
          refine (hpc w S (ph t o) hlow hrc hfree).mono fun en w' ⟨z, he, hcg, hz⟩ => ⟨z, he, ?_⟩
          simp only [Bool.false_eq_true, if_false] at hz
          obtain ⟨rfl, hnew⟩ := hz
          have hrel : Rel T w0 S0 F { st with r := setCellR st.r t o (.own e0 n cs') } a w' S bx ph := by
            cases hb : (ph t o).v.ownBlock with
            | none =>
              have h2 := h.world (W := fun _ => False) (hcg.mono fun b _ hq => by rw [hb] at hq; cases hq) (fun _ _ hf => hf.elim)
              exact cell_reword h2 hc rfl (fun _ _ _ he => by cases he; exact ⟨_, rfl⟩) (fun _ _ he => by cases he) (fun _ _ _ he => by cases he) hnew
            | some g =>
              exact cell_write h hc rfl (fun _ _ _ he => by cases he; exact ⟨_, rfl⟩) (fun _ _ he => by cases he) (fun _ _ _ he => by cases he) (own_blk hc hb) (hcg.mono fun b _ hq => by rw [hb] at hq; cases hq; rfl) hnew
          refine fin_sound hrel hdst (fun _ _ _ _ _ _ _ _ => trivial)
        · simp only [Option.some.injEq, Prod.mk.injEq] at hp
          obtain ⟨rfl, rfl, rfl⟩ := hp
          obtain ⟨hen, hpc⟩ : Enters P f ∧ PCO P T f e0 n cells gs true n' cs' := ho _ (List.mem_cons_self ..)
          refine ⟨hen, ?_⟩
          rw [hvs]
          refine (hpc w S (ph t o) hlow hrc hfree).mono fun en w' ⟨z, he, hcg, hz⟩ => ⟨z, he, ?_⟩
          simp only [if_true] at hz
          obtain ⟨hnew, hzb⟩ := hz
          have h1 := dead_sound h t o
          have hlen : (kill (ofCell t o) st.s).length = st.s.length := by simp [kill]
          have := own_fin (w' := w') (z := z) (dst := dst) h1 (by show (setCellR st.r t o .dead).getD (kill (ofCell t o) st.s).length .none = .none; rw [hlen, getD_setCell, if_neg hne]; exact hsp) (W := fun b => (ph t o).v.ownBlock = some b) hcg (fun b hb hW => by
            refine ⟨(hfree b hW).1, fun u κ ho' => ?_, h.mine t (some o) b (own_blk hc hW)⟩
            obtain ⟨h3, h4⟩ := owns_dead ho'
            obtain ⟨e1, e2⟩ := h.heap.inj _ _ _ _ b h3 (own_blk hc hW)
            exact h4 ⟨e1, e2⟩) hnew hzb (fun k hk => by show k < (kill (ofCell t o) st.s).length; rw [hlen]; exact hdst k hk)
          simpa only [hlen] using this
      · cases hp
    · cases hp
  · cases hp
end Go.Proofs.Ytcpcghnpoekhpaa.A
/- The ghost machine, part 22d: calls that make a box. -/
set_option linter.unusedSimpArgs false
set_option linter.unusedVariables false
set_option maxRecDepth 100000
set_option maxHeartbeats 4000000
namespace Go.Proofs.Ytcpcghnpoekhpaa.A
open Go Go.RowKit
variable {P : Program} {T : TT} {w w' w0 : World} {S S0 : Nat → Prop} {F : Fr} {bx : Nat → Nat} {ph : Nat → Nat → Pv} {a : Act} {st st' : St}
theorem looseBox_sound (h : Rel T w0 S0 F st a w S bx ph) {row : List RC} (hrow : st.r.getD st.s.length .none = .loose row) {g : Nat} {arr : Array Value} {e : TypeId} (hg : w.heap[g]? = some (.cells arr e (0, 0)))
  (hcs : arr.size = row.length) (hv : ∀ o, o < row.length → arr[o]? = some (ph st.s.length o).v) (hS : ¬ S g) (hno : ∀ t κ, ¬ owns st.r bx ph t κ g) (hm : w0.heap.size ≤ g ∨ F g) (hme : row.any RC.isMe = false) :
  Rel T w0 S0 F { st with r := st.r.set st.s.length (.box row) } a w S (fun t => if t = st.s.length then g else bx t) ph ∧ (st.r.set st.s.length (.box row)).getD st.s.length .none = .box row := by
 have hN : st.s.length < st.r.length := by have := h.rsize.1; omega
 have hlt : g < w.heap.size := lt_of_block hg
 have hg2 : ∀ u, (st.r.set st.s.length (.box row)).getD u .none = if u = st.s.length then .box row else st.r.getD u .none := fun u => by
  rw [getD_set]
  by_cases e1 : u = st.s.length
  ·subst e1; simp [hN]
  ·rw [if_neg (fun hh => e1 hh.1.symm), if_neg e1]
 have hown : ∀ t κ b, owns (st.r.set st.s.length (.box row)) (fun t => if t = st.s.length then g else bx t) ph t κ b → (t = st.s.length ∧ κ = none ∧ b = g) ∨ owns st.r bx ph t κ b := fun t κ b hb' => by
  by_cases e1 : t = st.s.length
  ·subst e1
   cases κ with
   | none =>
    obtain ⟨_, _, h2⟩ := owns_box hb'
    exact .inl ⟨rfl, rfl, by simpa using h2⟩
   | some o =>
    obtain ⟨rc, h1, h2⟩ := owns_cell hb'
    rw [hg2, if_pos rfl] at h1
    right
    exact own_blk (rc := rc) (by rw [hrow]; exact h1) h2
  ·right
   unfold owns at hb' ⊢
   rw [hg2, if_neg e1] at hb'
   simp only [if_neg e1] at hb'
   exact hb'
 refine ⟨⟨h.size, ⟨by simp only [List.length_set]; exact h.rsize.1, fun t ht => by have h9 : st.s.length < t := ht; rw [if_neg (by omega)]; exact h.rsize.2 t ht⟩, h.defers, ⟨fun u => ?_, fun t κ t' κ' b h1 h2 => ?_, fun t κ b h1 => ?_, h.heap.low⟩, fun t κ b h1 => ?_, fun i hi => (h.slot i hi).mono fun v x hx => ?_, h.keep, h.new, h.chg⟩, by rw [hg2, if_pos rfl]⟩
 ·rw [hg2]
  by_cases e1 : u = st.s.length
  ·subst e1
   have e0 : (if st.s.length = st.s.length then Root.box row else st.r.getD st.s.length .none) = .box row := if_pos rfl
   rw [e0]
   simp only [if_true]
   refine ⟨⟨arr, e, hg, hcs, hv⟩, fun o ho => ?_, fun o f ho => (noMe_get hme ho).elim⟩
   refine h.heap.cell (t := st.s.length) (o := o) ?_
   rw [hrow]; exact List.getElem?_eq_getElem ho
  ·rw [if_neg e1]
   simp only [if_neg e1]
   exact h.heap.root u
 ·rcases hown t κ b h1 with ⟨rfl, rfl, rfl⟩ | g1 <;> rcases hown t' κ' _ h2 with ⟨rfl, rfl, h3⟩ | g2
  ·exact ⟨rfl, rfl⟩
  ·exact absurd g2 (hno _ _)
  ·exact absurd (by rw [← h3]; exact g1) (hno _ _)
  ·exact h.heap.inj _ _ _ _ b g1 g2
 ·rcases hown t κ b h1 with ⟨rfl, rfl, rfl⟩ | h1
  ·exact ⟨hS, hlt⟩
  ·exact h.heap.free t κ b h1
 ·rcases hown t κ b h1 with ⟨rfl, rfl, rfl⟩ | h1
  ·exact hm
  ·exact h.mine t κ b h1
 ·have hN0 : ∀ rw', st.r.getD st.s.length .none ≠ .box rw' := fun rw' => by rw [hrow]; exact fun hh => by cases hh
  refine hx.congr (fun t o rc hc ho hv' => ?_) (fun t o he row' hv' hp => ?_) (fun f caps he t ht row' hv' => ?_)
  ·refine ⟨?_, rfl⟩
   show ((st.r.set st.s.length (.box row)).getD t .none).row[o]? = _
   rw [hg2]
   by_cases e1 : t = st.s.length
   ·subst e1; rw [if_pos rfl]; rw [hrow] at hv'; exact hv'
   ·rw [if_neg e1]; exact hv'
  ·have n1 : t ≠ st.s.length := fun e1 => by subst e1; exact hN0 _ hv'
   exact ⟨row', by show (st.r.set st.s.length (.box row)).getD t .none = _; rw [hg2, if_neg n1]; exact hv', hp, by simp [n1]⟩
  ·have n1 : t ≠ st.s.length := fun e1 => by subst e1; exact hN0 _ hv'
   exact ⟨row', by show (st.r.set st.s.length (.box row)).getD t .none = _; rw [hg2, if_neg n1]; exact hv', rfl, by simp [n1]⟩
theorem newCall_sound (h : Rel T w0 S0 F st a w S bx ph) (hsp : st.r.getD st.s.length .none = .none) {f : FuncId} {vs : List Value} {args : List V} {row : List RC} {vf : Nat → V} {st1 : St} {obl : List Prop}
    (hl : vs.length = args.length) (hv : ∀ k (h1 : k < args.length) (h2 : k < vs.length), VRep T w S st.r bx ph vs[k] args[k])
    (hp : newCall T (std P T) st f args row = some (vf, st1, obl)) (ho : ∀ p ∈ obl, p) {dst : Option Nat} (hdst : ∀ k, dst = some k → k < st.s.length) :
    Enters P f ∧ Calls P f vs.toArray w fun e w' => ∃ z, e = .returned z ∧ Rels T w0 S0 F (fin st1 dst vf) (a.put dst z) w' ∧ Old w w' := by
  unfold newCall at hp
  split at hp
  · rename_i hall
    simp only [Bool.and_eq_true, Bool.not_eq_true'] at hall
    obtain ⟨hall, hme⟩ := hall
    split at hp
    · rename_i as9 has
      simp only [Option.some.injEq, Prod.mk.injEq] at hp
      obtain ⟨rfl, rfl, rfl⟩ := hp
      obtain ⟨hen, hpc⟩ : Enters P f ∧ PCN P T f as9 row := ho _ (List.mem_cons_self ..)
      refine ⟨hen, ?_⟩
      have has2 := optAll_some _ _ has
      have hal : as9.length = args.length := by have := congrArg List.length has2; simpa using this.symm
      have hargs : ∀ k (h1 : k < as9.length) (h2 : k < args.length), argOf T (std P T) st.r [] args[k] = some as9[k] := fun k h1 h2 => by
        have := congrArg (fun l => l[k]?) has2
        simpa only [List.getElem?_map, List.getElem?_eq_getElem h1, List.getElem?_eq_getElem h2, Option.map_some, Option.some.injEq] using this
      have hnp : ∀ k (h2 : k < args.length), ptrOf args[k] = none ∧ capsOf args[k] = [] := fun k h2 => by
        have := List.all_eq_true.1 hall args[k] (List.getElem_mem h2)
        simpa using this
      obtain ⟨S', hf, hcr⟩ := freezeAll_sound (P := P) (args.flatMap cellsOfV) h
      generalize hstf : (args.flatMap cellsOfV).foldl (freezeX T (std P T)) st = stf at hf
      have hR : ∀ k, (as9.map Arg.asRoot).getD k .none = match (none : Option Nat) with | some t => stf.r.getD t .none | none => .none := fun k => by
        rw [List.getD_eq_getElem?_getD, List.getElem?_map]
        by_cases h1 : k < args.length
        · rw [List.getElem?_eq_getElem (show k < as9.length by omega)]
          have h2 := (arg_root (hargs k (by omega) h1)).2
          simp only [Option.map_some, Option.getD_some]
          rw [h2, (hnp k h1).1]
        · rw [List.getElem?_eq_none (by omega)]; rfl
      obtain ⟨hsub, hsown⟩ := hf.rel.heap.sub (τ := fun _ => none) (R := as9.map Arg.asRoot) hR (fun k k' t a1 _ => by cases a1)
      have hreal : reals as9 = vs.length := by
        unfold reals
        rw [List.filter_eq_self.2 (fun x hx => ?_), hal, hl]
        obtain ⟨k, hk, rfl⟩ := List.mem_iff_getElem.1 hx
        exact (arg_root (hargs k hk (by omega))).1
      have hrep : ∀ i (h1 : i < as9.length) (h2 : i < vs.length), ArgRep w S' (fun _ => bx 0) (bx 0) vs[i] as9[i] := fun i h1 h2 => by
        have h3 : i < args.length := by omega
        refine arg_sound (ts := []) (bxs := fun _ => bx 0) (k := i) (hv i h3 h2) (hargs i (by omega) h3) (fun j t hj => by simp at hj) (fun t ht => ?_) (fun t ht => ?_) (fun y hy hh u c hu hc => ?_)
        · rw [(hnp i h3).2] at ht; cases ht
        · rw [(hnp i h3).1] at ht; cases ht
        · exact hcr y (List.mem_flatMap.2 ⟨_, List.getElem_mem h3, hy⟩) u c hu hc
      refine (hpc w S' (fun _ => bx 0) (fun _ => ph 0) vs hsub hreal.symm hrep).mono fun e w' ⟨b, arr, t, S3, bx', ph', he, hb, hge, hnS, hnoo, hpos, hg⟩ => ⟨_, he, ?_⟩
      have hnone : ∀ k κ b, ¬ owns (as9.map Arg.asRoot) (fun _ => bx 0) (fun _ => ph 0) k κ b := fun k κ b hb' => by
        obtain ⟨t, h1, _⟩ := hsown k κ b hb'
        cases h1
      obtain ⟨S4, ph2, h5, h6, h7, h8, h9⟩ := call_merge (ts := []) (R := as9.map Arg.asRoot) (us := []) (ret := ⟨false, [(true, row)]⟩) (upd := []) hf.rel (by rw [hf.len]; exact hf.spare _ hsp) rfl (by simp) rfl (fun k => rfl)
        (by simpa using hg)
        (fun k κ b hb' => absurd hb' (by simpa using hnone k κ b))
        (fun o ho => by
          have h3 := hg.heap.root 0 o ho
          refine h3.frame (fun _ _ => rfl) (fun b hb' => ?_) (fun _ _ => rfl)
          rcases hg.new b hb' with h1 | h1 | ⟨k, κ, h1⟩
          · exact .inl h1
          · exact .inr ⟨hb', .inl h1⟩
          · exact absurd h1 (hnone _ _ _))
        (fun k row hk => by simp at hk)
      have hrow1 : (⟨false, [(true, row)]⟩ : RV).parts.flatMap (·.2) = row := by simp
      rw [hrow1] at h5 h6 h9
      obtain ⟨us, q1, q2, q3⟩ : ∃ us : Array Value, Value.agg arr = .agg us ∧ us.size = row.length ∧ ∀ k (h : k < us.size), us[k] = (ph' 0 (0 + k)).v := by
        have := hg.val
        unfold RetRep at this
        simp only [Bool.false_eq_true, if_false, PartVals] at this
        simpa [PartVal] using this.1
      cases q1
      have hslen : (kill (lostX []) stf.s).length = st.s.length := by simp [kill, hf.len]
      have hset : (setRoots stf.r [] []) = stf.r := rfl
      rw [hset] at h5 h6 h9
      obtain ⟨p1, p2⟩ := looseBox_sound (g := b) (arr := arr) (e := t) (row := row) h5 (by
          show (stf.r.set stf.s.length (.loose row)).getD (kill (lostX []) stf.s).length .none = _
          rw [hslen, ← hf.len]; exact h6) hb q2 (fun o ho => by
          have ho' : o < arr.size := by omega
          rw [Array.getElem?_eq_getElem ho', q3 o ho', Nat.zero_add]
          congr 1
          show _ = (ph2 (kill (lostX []) stf.s).length o).v
          rw [hslen, ← hf.len, h7 o]) (fun hs => by
          rcases h8 b hs with h1 | h1
          · have := hf.rel.heap.low.1 b h1; omega
          · exact hnS h1) (fun u κ hu => by
          rcases h9 u κ b hu with h1 | ⟨k, κ', h1⟩
          · omega
          · exact hnoo k κ' h1) (.inl (Nat.le_trans hf.rel.chg.size hge)) hme
      refine ⟨?_, fun b' hb' => hg.chg.block b' hb' fun ⟨k, κ, hk⟩ => hnone _ _ _ hk⟩
      have p1' : Rel T w0 S0 F { s := kill (lostX []) stf.s, r := stf.r.set st.s.length (.box row) } a w' S4 (fun t => if t = st.s.length then b else bx t) ph2 := by
        have := p1
        simp only [hslen, hf.len, List.set_set] at this
        exact this
      refine fin_sound p1' (fun k hk => by show k < (kill (lostX []) stf.s).length; rw [hslen]; exact hdst k hk) (fun k bx2 ph3 hk e1 e2 e3 _ => ?_)
      have hslen2 : ({ s := kill (lostX []) stf.s, r := stf.r.set st.s.length (.box row) } : St).s.length = st.s.length := hslen
      rw [hslen2] at e2 e3
      refine ⟨row, ?_, hpos, ?_⟩
      · rw [e3]
        have := p2
        show (stf.r.set st.s.length (.box row)).getD st.s.length .none = _
        rw [getD_set, if_pos ⟨rfl, by have := hf.rel.rsize.1; rw [hf.len] at this; omega⟩]
      · rw [e2, if_pos rfl]
    · cases hp
  · cases hp
theorem anyCall_sound (h : Rel T w0 S0 F st a w S bx ph) (hsp : st.r.getD st.s.length .none = .none) {f : FuncId} {vs : List Value} {args : List V} {cr : RV × List Root} {vf : Nat → V} {st1 : St} {obl : List Prop}
  (hl : vs.length = args.length) (hv : ∀ k (h1 : k < args.length) (h2 : k < vs.length), VRep T w S st.r bx ph vs[k] args[k])
  (hp : anyCall T (std P T) st f args cr = some (vf, st1, obl)) (ho : ∀ p ∈ obl, p) {dst : Option Nat} (hdst : ∀ k, dst = some k → k < st.s.length) :
  Enters P f ∧ Calls P f vs.toArray w fun e w' => ∃ z, e = .returned z ∧ Rels T w0 S0 F (fin st1 dst vf) (a.put dst z) w' ∧ ((tsOf args).all Option.isNone = true → Old w w') := by
 unfold anyCall at hp
 split at hp
 ·obtain ⟨r1, r2⟩ := newCall_sound h hsp hl hv hp ho hdst
  exact ⟨r1, r2.mono fun e w' ⟨z, h1, h2, h3⟩ => ⟨z, h1, h2, fun _ => h3⟩⟩
 ·exact call_sound h hsp hl hv hp ho hdst
theorem setC_nil (cells : List C) (k : Nat) : setC cells k [] = cells := by unfold setC; simp
theorem ext0 (cs : List C) (k : Nat) : extC cs 0 k = cs.take k := by unfold extC; simp
theorem imin_nat (a b : Nat) : (if (b : Int) < (a : Int) then (b : Int) else (a : Int)).toNat = Nat.min b a := by
 show _ = min b a
 split <;> omega
theorem copy_core (hT : TOk P T) (h : Rel T w0 S0 F st a w S bx ph) {t e : TypeId} {te : TI} (hel : elemOf T t = some (e, te)) (hsz : te.size = 1) {t1 o1 lo len n : Nat} {cells : List C} {u y : Value}
    (hc : (st.r.getD t1 .none).row[o1]? = some (.own e n cells)) (hle : lo + len ≤ n) (hu : ∃ dp dc, u = .slice dp len dc) (hpos : 0 < len → ∃ g cap, (ph t1 o1).v = .slice (some ⟨g, 0, none⟩) n cap ∧ ∃ dc, u = .slice (some ⟨g, lo, none⟩) len dc)
    {m : Nat} {cs : List C} {news : List Value} (n1 : news.length = m) (n2 : news.length = cs.length) (n3 : ∀ k (h : k < cs.length) (h2 : k < news.length), CRep w S news[k] cs[k]) (n4 : (m = 0 ∧ ∃ aa c, y = .slice aa 0 c) ∨ Src w y m news)
    {dst : Option Nat} (hsp : st.r.getD st.s.length .none = .none) (hdst : ∀ k, dst = some k → k < st.s.length) (ty : TypeId) :
    ∃ z w', (Builtin.copy_ #[t, t] ty #[u, y]).run P w = .ok z w' ∧ Rels T w0 S0 F (fin { st with r := setCellR st.r t1 o1 (.own e n (setC cells lo (extC cs 0 (Nat.min m len)))) } dst (fun _ => .one (.c (.val (.int .i64 ((Nat.min m len : Nat) : Int)))))) (a.put dst z) w' := by
  obtain ⟨hut, hte, _⟩ := elemOf_desc hT hel
  have hszOf : szOf T e = 1 := by unfold szOf; rw [hte]; exact hsz
  obtain ⟨_, i, hi, his, _⟩ := hT _ _ hte
  have hsize : (P.info? e).map (·.size) = some 1 := by rw [hi]; simp [his, hsz]
  have hsrc0 : ∃ sp sc, y = .slice sp m sc := by
    rcases n4 with ⟨q0, aa, c, q⟩ | ⟨q, q0, _⟩ | ⟨ad, c, q, _⟩
    · subst q0; exact ⟨_, _, q⟩
    · subst q0; exact ⟨_, _, q⟩
    · exact ⟨_, _, q⟩
  by_cases hm0 : Nat.min m len = 0
  · obtain ⟨dp, dc, hd⟩ := hu
    obtain ⟨sp, sc, hs⟩ := hsrc0
    have e1 : setC cells lo (extC cs 0 (Nat.min m len)) = cells := by rw [hm0, ext0, List.take_zero, setC_nil]
    rw [e1]
    refine ⟨goInt 0, w, ?_, fin_sound (cell_reword h hc (rc' := .own e n cells) rfl (fun _ _ _ he => by cases he; exact ⟨_, rfl⟩) (fun _ _ he => by cases he) (fun _ _ _ he => by cases he) (h.heap.cell hc)) hdst (fun _ _ _ _ _ _ _ _ => ?_)⟩
    · rw [hd, hs]
      exact run_copy_none (P := P) w t t ty e dp sp len dc m sc hut hsize hm0
    · rw [hm0]; exact CRep.val (v := .int .i64 ((0 : Nat) : Int)) rfl
  · have hmin : Nat.min m len = min m len := rfl
    rw [hmin] at hm0 ⊢
    obtain ⟨g, cap, hd, dc, hud⟩ := hpos (by omega)
    obtain ⟨ys, y1, y2, y3⟩ := h.heap.cell hc
    rw [hd] at y1
    obtain ⟨y10, y11⟩ := y1
    rw [hszOf, Nat.mul_one] at y10
    rcases n4 with ⟨q0, _⟩ | ⟨_, q0, _⟩ | ⟨ad, c, hs, hcell⟩
    · omega
    · omega
    rcases y11 with ⟨hv, _⟩ | ⟨g', cap', cur, hv, _, hheap, hn, hmx, hs2, htk⟩
    · cases hv
    · cases hv
      rw [hszOf, Nat.mul_one] at hs2 htk
      generalize hk : min m len = k at *
      have hzl : (news.take k).length = k := by rw [List.length_take]; omega
      have hfit2 : lo + k ≤ cur.toList.length := by rw [Array.length_toList]; omega
      have hrun := run_copy_row (P := P) w t t ty e g lo len dc ad m c cur e (news.take k) hut hsize hheap (by rw [hzl]; exact hk.symm) (fun j v hj => hcell j v (by
        rw [List.getElem?_take] at hj
        split at hj
        · exact hj
        · cases hj)) (by rw [hzl]; omega) (fun v hv => by
        obtain ⟨k2, hk2, rfl⟩ := List.mem_iff_getElem.1 (List.mem_of_mem_take hv)
        exact crep_one (n3 k2 (by omega) hk2))
      rw [hzl] at hrun
      have hcg := chg_setRow (w := w) g (cur.toList.take lo ++ news.take k ++ cur.toList.drop (lo + k)).toArray
      have hob : owns st.r bx ph t1 (some o1) g := own_blk hc (by show (ph t1 o1).v.ownBlock = some g; rw [hd]; rfl)
      have hheap' := setRow_heap w g cur (cur.toList.take lo ++ news.take k ++ cur.toList.drop (lo + k)).toArray e (0, 0) hheap
      have hcl : (cs.take k).length = k := by rw [List.length_take]; omega
      have hset : setC cells lo (extC cs 0 k) = cells.take lo ++ cs.take k ++ cells.drop (lo + k) := by rw [ext0]; unfold setC; rw [hcl]
      have hys : lo + k ≤ ys.length := by omega
      have hcells : lo + k ≤ cells.length := by omega
      refine ⟨_, _, by rw [hud, hs]; exact hrun, fin_sound (cell_write h hc (rc' := .own e n (setC cells lo (extC cs 0 k))) rfl (fun _ _ _ he => by cases he; exact ⟨_, rfl⟩) (fun _ _ he => by cases he) (fun _ _ _ he => by cases he) hob hcg ?_) hdst (fun _ _ _ _ _ _ _ _ => CRep.val (v := .int .i64 (k : Int)) rfl)⟩
      rw [hset]
      refine ⟨ys.take lo ++ news.take k ++ ys.drop (lo + k), ⟨?_, .inr ⟨g, cap, _, hd, Nat.zero_le _, hheap', hn, hmx, ?_, ?_⟩⟩, ?_, fun j q1 q2 => ?_⟩
      · rw [hszOf, Nat.mul_one, spl_length hzl hys, y10]
      · rw [hszOf, Nat.mul_one, List.size_toArray, spl_length hzl hfit2, Array.length_toList, hs2]
      · rw [hszOf, Nat.mul_one]
        apply List.ext_getElem?
        intro j
        rw [List.getElem?_take, List.toList_toArray, spl_get hzl hfit2, spl_get hzl hys, ← htk]
        by_cases hj : j < n
        · rw [if_pos hj, show (List.take n cur.toList)[j]? = cur.toList[j]? from by rw [List.getElem?_take, if_pos hj]]
        · rw [if_neg hj, if_neg (by omega), show (List.take n cur.toList)[j]? = none from by rw [List.getElem?_take, if_neg hj]]
      · rw [spl_length hcl hcells, spl_length hzl hys, y2]
      · have fr : ∀ {v : Value} {c : C}, CRep w S v c → CRep (w.setRow g (cur.toList.take lo ++ news.take k ++ cur.toList.drop (lo + k)).toArray) S v c := fun hc => hc.frame (h.heap.write hob hcg).1 fun _ h => h
        have q1' : j < cells.length := by rw [spl_length hcl hcells] at q1; exact q1
        have e1 := spl_get hzl hys j
        have e2 := spl_get hcl hcells j
        by_cases h1 : lo ≤ j ∧ j < lo + k
        · rw [if_pos h1, List.getElem?_eq_getElem (show j - lo < (news.take k).length by omega)] at e1
          rw [if_pos h1, List.getElem?_eq_getElem (show j - lo < (cs.take k).length by omega)] at e2
          rw [get_of q2 e1, get_of q1 e2, List.getElem_take, List.getElem_take]
          exact fr (n3 (j - lo) (by omega) (by omega))
        · rw [if_neg h1, List.getElem?_eq_getElem (show j < ys.length by omega)] at e1
          rw [if_neg h1, List.getElem?_eq_getElem q1'] at e2
          rw [get_of q2 e1, get_of q1 e2]
          exact fr (y3 j q1' (by omega))
theorem copy_sound (hT : TOk P T) (h : Rel T w0 S0 F st a w S bx ph) {t : TypeId} {u y : Value} {D N : V} {vf : Nat → V} {st1 : St} {obl : List Prop} (hu : VRep T w S st.r bx ph u D) (hy : VRep T w S st.r bx ph y N)
  (hp : copyOp T (std P T) st t D N = some (vf, st1, obl)) (ho : ∀ p ∈ obl, p) {dst : Option Nat} (hsp : st.r.getD st.s.length .none = .none) (hdst : ∀ k, dst = some k → k < st.s.length) (ty : TypeId) :
  ∃ z w', (Builtin.copy_ #[t, t] ty #[u, y]).run P w = .ok z w' ∧ Rels T w0 S0 F (fin st1 dst vf) (a.put dst z) w' := by
 unfold copyOp at hp
 split at hp
 ·rename_i e te hel
  split at hp
  ·cases hp
  ·rename_i hbad
   have hsz : te.size = 1 := by simpa using hbad
   obtain ⟨hut, hte, _⟩ := elemOf_desc hT hel
   have hszOf : szOf T e = 1 := by unfold szOf; rw [hte]; exact hsz
   split at hp
   ·rename_i t1 o1 lo len n cells hcd
    split at hp
    ·rename_i m cs obl' hn
     simp only [Option.some.injEq, Prod.mk.injEq] at hp
     obtain ⟨rfl, rfl, rfl⟩ := hp
     obtain ⟨news, n1, n2, n3, n4⟩ := news_sound h.heap hy (by rw [hszOf]; exact hn) ho (by omega)
     rw [hszOf, Nat.mul_one] at n1
     have key := fun (hc : (st.r.getD t1 .none).row[o1]? = some (.own e n cells)) hle hu hpos => copy_core (P := P) hT h hel hsz (t1 := t1) (o1 := o1) (lo := lo) (len := len) (u := u) hc hle hu hpos n1 n2 n3 n4 hsp hdst ty
     have hk : (std P T).toNat ((std P T).imin ((std P T).ofNat len) ((std P T).ofNat m)) = Nat.min m len := imin_nat len m
     have hk2 : (std P T).imin ((std P T).ofNat len) ((std P T).ofNat m) = ((Nat.min m len : Nat) : Int) := by
      show (if (m : Int) < (len : Int) then (m : Int) else (len : Int)) = ((min m len : Nat) : Int)
      split <;> omega
     rw [hk, hk2]
     unfold copyDst at hcd
     split at hcd
     ·rename_i t' o'
      split at hcd
      ·rename_i e' n' cells' hown
       split at hcd
       ·rename_i he
        subst he
        simp only [Option.some.injEq, Prod.mk.injEq] at hcd
        obtain ⟨rfl, rfl, rfl, rfl, rfl, rfl⟩ := hcd
        have hc := ownAt_eq hown
        obtain ⟨_, _, _, _, rfl⟩ := hu
        rcases own_form (h.heap.cell hc) with ⟨q, q0, _⟩ | ⟨g, cap, q, _⟩
        ·subst q0
         exact key hc (by omega) ⟨_, _, q⟩ (fun h0 => absurd h0 (by omega))
        ·exact key hc (by omega) ⟨_, _, q⟩ (fun _ => ⟨g, cap, q, cap, q⟩)
       ·cases hcd
      ·cases hcd
     ·rename_i t' o' lo' hi'
      split at hcd
      ·rename_i e' n' cells' hown
       split at hcd
       ·rename_i he
        subst he
        simp only [Option.some.injEq, Prod.mk.injEq] at hcd
        obtain ⟨rfl, rfl, rfl, hlen, rfl, rfl⟩ := hcd
        have hc := ownAt_eq hown
        obtain ⟨e2, n2', cells2, aa, cap, a', x1, x2, x3, x4, x5, x6, x7⟩ := hu
        rw [hc] at x1; cases x1
        have hl : len = hi' - lo' := by
         rw [← hlen]
         split
         ·omega
         ·rfl
        refine key hc (by omega) ⟨_, _, by rw [hl]; exact x5⟩ (fun h0 => ?_)
        obtain ⟨g, y1, y2⟩ := x7 (by omega)
        rw [hszOf, Nat.mul_one] at y2
        exact ⟨g, cap, by rw [x2, y1], _, by rw [x5, y2, hl]⟩
       ·cases hcd
      ·cases hcd
     ·cases hcd
    ·cases hp
   ·cases hp
 ·cases hp
end Go.Proofs.Ytcpcghnpoekhpaa.A
/- The ghost machine: trees turn. -/
set_option linter.unusedSimpArgs false
set_option linter.unusedVariables false
set_option maxRecDepth 100000
set_option maxHeartbeats 4000000
namespace Go.Proofs.Ytcpcghnpoekhpaa.A
open Go Go.RowKit
variable {P : Program} {T : TT} {w w' w0 : World} {S S0 : Nat → Prop} {F : Fr} {bx : Nat → Nat} {ph : Nat → Nat → Pv} {a : Act} {st st' : St}
mutual
theorem Sh.same_eq : ∀ a b : Sh, a.same b = true → a = b
 | .st, .st, _ => rfl
 | .st, .sl _ _, h => by simp [Sh.same] at h
 | .sl _ _, .st, h => by simp [Sh.same] at h
 | .sl e ks, .sl e' ks', h => by
  simp only [Sh.same, Bool.and_eq_true, beq_iff_eq] at h
  rw [h.1, sameL_eq ks ks' h.2]
theorem sameL_eq : ∀ a b : List Sh, sameL a b = true → a = b
 | [], [], _ => rfl
 | [], _ :: _, h => by simp [sameL] at h
 | _ :: _, [], h => by simp [sameL] at h
 | a :: as9, b :: bs, h => by
  simp only [sameL, Bool.and_eq_true] at h
  rw [Sh.same_eq a b h.1, sameL_eq as9 bs h.2]
end
theorem allSt_get {ks : List Sh} (h : allSt ks = true) (i : Nat) : ks.getD i .st = .st := by
 rw [List.getD_eq_getElem?_getD]
 cases hk : ks[i]? with
 | none => rfl
 | some s =>
  have := List.all_eq_true.1 h s (List.mem_of_getElem? hk)
  cases s with
  | st => rfl
  | sl => cases this
theorem blksL_rep (n : Nat) : blksL (List.replicate n (.of undef)) = [] := by
 induction n with
 | zero => rfl
 | succ n ih => rw [List.replicate_succ, blksL, ih]; rfl
theorem toT_sound {sh : Sh} {rc : RC} {c : C} {pv : Pv} (h : RCRep T w S pv rc) (ht : toT sh rc = some c) :
  ∃ q, CRepT T w S none sh pv.v q c ∧ (∀ b, b ∈ q.blks ↔ rc.blk pv b) ∧ q.blks.Nodup := by
 cases rc with
 | st c' =>
  simp only [toT] at ht
  split at ht
  ·cases ht
   exact ⟨.mk pv.v none [], .st h, fun b => by simp [Pv.blks, blksL, RC.blk], by simp [Pv.blks, blksL]⟩
  ·cases ht
   have hz := crep_nil h
   refine ⟨.mk nilSl none [], by rw [hz]; exact .nil (.inl rfl), fun b => by simp [Pv.blks, blksL, RC.blk], by simp [Pv.blks, blksL]⟩
  ·cases ht
 | own e n cells =>
  simp only [toT] at ht
  split at ht
  ·rename_i e' ks
   split at ht
   ·rename_i hc
    obtain ⟨rfl, hst⟩ := hc
    cases ht
    obtain ⟨xs, h1, h2, h3⟩ := h
    have h1' := h1
    obtain ⟨v, b0, k0⟩ := pv
    show ∃ q, CRepT T w S none _ v q _ ∧ (∀ b, b ∈ q.blks ↔ v.ownBlock = some b) ∧ _
    have h1 : w.ownsRow 0 e (szOf T e) v n xs := h1'
    rcases h1.2 with ⟨hv, hn⟩ | ⟨g, cap, cur, hv, hB, hheap, hn, hc, hs, ht⟩
    ·subst hv; subst hn
     have : cells = [] := List.eq_nil_of_length_eq_zero (by rw [← h2, h1.1]; simp)
     subst this
     exact ⟨.mk nilSl none [], .nil (.inr rfl), fun b => by simp [Pv.blks, blksL, Value.ownBlock], by simp [Pv.blks, blksL]⟩
    ·subst hv
     refine ⟨.mk (.slice (some ⟨g, 0, none⟩) n cap) (some g) (List.replicate xs.length (.of undef)), .node (by simp) (fun k p hh => by cases hh) h1 h2.symm (by simp) (fun k i1 i2 i3 => ?_), fun b => ?_, ?_⟩
     ·rw [allSt_get hst]
      have : (List.replicate xs.length (Pv.of undef))[k] = .mk undef none [] := by simp
      rw [this]
      exact .st (h3 k i3 i1)
     ·show b ∈ [g] ++ blksL _ ↔ _
      rw [blksL_rep]; simp [Value.ownBlock, eq_comm]
     ·show ([g] ++ blksL _).Nodup
      rw [blksL_rep]; simp
   ·cases ht
  ·cases ht
 | map kk m => cases ht
 | me f => cases ht
 | dead => cases ht
 | tree sh' c' hp =>
  cases hp with
  | some p => cases ht
  | none =>
   simp only [toT] at ht
   split at ht
   ·rename_i hs
    cases ht
    have := Sh.same_eq _ _ hs
    subst this
    exact ⟨pv, h.1, fun b => Iff.rfl, h.2.1⟩
   ·cases ht
theorem choose_list {α : Type} {n : Nat} {R : Nat → α → Prop} (h : ∀ k, k < n → ∃ q, R k q) : ∃ qs : List α, qs.length = n ∧ ∀ k (hk : k < qs.length), R k qs[k] := by
 induction n with
 | zero => exact ⟨[], rfl, fun k hk => absurd hk (by simp)⟩
 | succ n ih =>
  obtain ⟨qs, h1, h2⟩ := ih fun k hk => h k (by omega)
  obtain ⟨q, hq⟩ := h n (by omega)
  refine ⟨qs ++ [q], by simp [h1], fun k hk => ?_⟩
  by_cases e : k < qs.length
  ·rw [List.getElem_append_left e]; exact h2 k e
  ·have : k = n := by simp at hk; omega
   subst this
   rw [List.getElem_append_right (by omega)]
   simpa using hq
theorem blksL_nodup {qs : List Pv} (h1 : ∀ k (h : k < qs.length), qs[k].blks.Nodup) (h2 : ∀ k k' (h : k < qs.length) (h' : k' < qs.length) (b : Nat), b ∈ qs[k].blks → b ∈ qs[k'].blks → k = k') : (blksL qs).Nodup := by
 induction qs with
 | nil => simp [blksL]
 | cons q qs ih =>
  rw [blksL, List.nodup_append]
  refine ⟨h1 0 (by simp), ih (fun k hk => h1 (k + 1) (by simpa using hk)) (fun k k' hk hk' b hb hb' => ?_), fun b hb b' hb' e => ?_⟩
  ·have := h2 (k + 1) (k' + 1) (by simpa using hk) (by simpa using hk') b hb hb'
   omega
  ·subst e
   obtain ⟨k, hk, hk2⟩ := mem_blksL.1 hb'
   have := h2 0 (k + 1) (by simp) (by simpa using hk) b hb hk2
   omega
theorem rowT_get {ks : List Sh} {sz off : Nat} {row : List RC} {cs : List C} (h : rowT ks sz off row = some cs) : cs.length = row.length ∧ ∀ k (h1 : k < row.length) (h2 : k < cs.length), toT (ks.getD ((off + k) % sz) .st) row[k] = some cs[k] := by
 have h2 := optAll_some _ _ h
 have hl : row.length = cs.length := by have := congrArg List.length h2; simpa using this
 refine ⟨hl.symm, fun k k1 k2 => ?_⟩
 have h3 := congrArg (fun l => l[k]?) h2
 simp only [List.getElem?_map, List.getElem?_zipIdx, List.getElem?_eq_getElem k1, List.getElem?_eq_getElem k2, Option.map_some, Option.some.injEq, Nat.zero_add] at h3
 exact h3
theorem rowT_sound {ks : List Sh} {sz off : Nat} {row : List RC} {cs : List C} {φ : Nat → Pv} (h : ∀ k (hk : k < row.length), RCRep T w S (φ k) row[k]) (ht : rowT ks sz off row = some cs)
  (hinj : ∀ k k' (hk : k < row.length) (hk' : k' < row.length) (b : Nat), row[k].blk (φ k) b → row[k'].blk (φ k') b → k = k') :
  ∃ qs : List Pv, qs.length = row.length ∧ cs.length = row.length ∧ (∀ k (h1 : k < qs.length) (h2 : k < cs.length), CRepT T w S none (ks.getD ((off + k) % sz) .st) (φ k).v qs[k] cs[k]) ∧
   (∀ b, b ∈ blksL qs ↔ ∃ k, ∃ hk : k < row.length, row[k].blk (φ k) b) ∧ (blksL qs).Nodup := by
 obtain ⟨hl, hg⟩ := rowT_get ht
 obtain ⟨qs, q1, q2⟩ := choose_list (n := row.length) (R := fun k q => ∃ hk : k < row.length, ∃ hk2 : k < cs.length, CRepT T w S none (ks.getD ((off + k) % sz) .st) (φ k).v q cs[k] ∧ (∀ b, b ∈ q.blks ↔ row[k].blk (φ k) b) ∧ q.blks.Nodup) fun k hk => by
  have hk2 : k < cs.length := by omega
  obtain ⟨q, a1, a2, a3⟩ := toT_sound (h k hk) (hg k hk hk2)
  exact ⟨q, hk, hk2, a1, a2, a3⟩
 refine ⟨qs, q1, hl, fun k h1 h2 => ?_, fun b => ?_, ?_⟩
 ·obtain ⟨_, _, a1, _⟩ := q2 k h1; exact a1
 ·rw [mem_blksL]
  constructor
  ·rintro ⟨k, hk, hb⟩
   obtain ⟨a0, _, _, a2, _⟩ := q2 k hk
   exact ⟨k, a0, (a2 b).1 hb⟩
  ·rintro ⟨k, hk, hb⟩
   have hk2 : k < qs.length := by omega
   obtain ⟨_, _, _, a2, _⟩ := q2 k hk2
   exact ⟨k, hk2, (a2 b).2 hb⟩
 ·refine blksL_nodup (fun k hk => ?_) (fun k k' hk hk' b hb hb' => ?_)
  ·obtain ⟨_, _, _, _, a3⟩ := q2 k hk; exact a3
  ·obtain ⟨a0, _, _, a2, _⟩ := q2 k hk
   obtain ⟨b0, _, _, b2, _⟩ := q2 k' hk'
   exact hinj k k' a0 b0 b ((a2 b).1 hb) ((b2 b).1 hb')
theorem rc_fin (h : Rel T w0 S0 F st a w S bx ph) (hsp : st.r.getD st.s.length .none = .none) {rc : RC} {pv : Pv} {W : Nat → Prop} (hc : Chg W w w')
    (hW : ∀ b, b < w.heap.size → W b → ¬ S b ∧ (∀ t κ, ¬ owns st.r bx ph t κ b) ∧ (w0.heap.size ≤ b ∨ F b)) (hrc : RCRep T w' S pv rc)
    (hz : ∀ b, rc.blk pv b → b < w'.heap.size ∧ (w.heap.size ≤ b ∨ W b)) {dst : Option Nat} (hd : ∀ k, dst = some k → k < st.s.length) :
    Rels T w0 S0 F (fin { st with r := pushR st.r st.s.length rc } dst (fun d => .one (rcX d 0 rc))) (a.put dst pv.v) w' := by
  have h1 := h.world hc hW
  obtain ⟨h2, h3⟩ := pushOwn h1 hsp hrc (fun b hb => by
    obtain ⟨hlt, hor⟩ := hz b hb
    rcases hor with hor | hor
    · exact ⟨fun hs => absurd (h.heap.low.1 b hs) (by omega), hlt, fun t κ ho => absurd (h.heap.free t κ b ho).2 (by omega), .inl (Nat.le_trans h.chg.size hor)⟩
    · by_cases hb2 : b < w.heap.size
      · obtain ⟨q1, q2, q3⟩ := hW b hb2 hor
        exact ⟨q1, hlt, q2, q3⟩
      · exact ⟨fun hs => absurd (h.heap.low.1 b hs) hb2, hlt, fun t κ ho => absurd (h.heap.free t κ b ho).2 hb2, .inl (Nat.le_trans h.chg.size (by omega))⟩)
  refine fin_sound h2 hd (fun k bx' ph' hk e1 e2 e3 hh => ?_)
  have hcell : ((name { st with r := pushR st.r st.s.length rc } k).r.getD k .none).row[0]? = some rc := by
    rw [e3, h3]; rfl
  have e4 : ph' k 0 = pv := by
    rw [e1]; unfold phPush; rw [if_pos ⟨rfl, rfl⟩]
  have := rcX_sound (st := name { st with r := pushR st.r st.s.length rc } k) hh hcell
  rw [e4] at this
  exact this
theorem dropN_sound (h : Rel T w0 S0 F st a w S bx ph) : Rel T w0 S0 F (dropN st) a w S bx ph ∧ (dropN st).r.getD (dropN st).s.length .none = .none ∧ (dropN st).s.length = st.s.length ∧
    (∀ u, u ≠ st.s.length → (dropN st).r.getD u .none = st.r.getD u .none) ∧ ∀ t κ b, owns (dropN st).r bx ph t κ b → t ≠ st.s.length ∧ owns st.r bx ph t κ b := by
  have hN : st.s.length < st.r.length := by have := h.rsize.1; omega
  have hg : ∀ u, (dropN st).r.getD u .none = if u = st.s.length then .none else st.r.getD u .none := fun u => by
    unfold dropN
    dsimp only
    rw [getD_set]
    by_cases e : u = st.s.length
    · subst e; simp [hN]
    · rw [if_neg (fun hh => e hh.1.symm), if_neg e]
  have hown : ∀ t κ b, owns (dropN st).r bx ph t κ b → t ≠ st.s.length ∧ owns st.r bx ph t κ b := fun t κ b hb => by
    by_cases e : t = st.s.length
    · subst e; exact (owns_none _ _ _ (by rw [hg, if_pos rfl]) _ _ hb).elim
    · refine ⟨e, ?_⟩
      unfold owns at hb ⊢
      rw [hg, if_neg e] at hb; exact hb
  have hl : (dropN st).s.length = st.s.length := by simp [dropN, kill]
  refine ⟨?_, by rw [hl, hg, if_pos rfl], hl, fun u hu => by rw [hg, if_neg hu], hown⟩
  refine h.ghost (fun x => if ofRoot st.s.length x = true then .undef else x) rfl (by simp [dropN]) ⟨fun u => ?_, fun t κ t' κ' b h1 h2 => h.heap.inj _ _ _ _ b (hown t κ b h1).2 (hown t' κ' b h2).2, fun t κ b h1 => h.heap.free _ _ b (hown t κ b h1).2, h.heap.low⟩
      (fun t κ b h1 => ⟨t, κ, (hown t κ b h1).2⟩) (fun v x hx => ?_) (fun _ h => h) (fun _ h => .inl h)
  · rw [hg]; split
    · trivial
    · exact h.heap.root u
  · split
    · trivial
    · rename_i hk
      refine hx.congr (fun t o rc hc _ h1 => ?_) (fun t o he row h1 h2 => ?_) (fun f caps he t ht row h1 => ?_)
      · have n2 : t ≠ st.s.length := fun e => hk (by
          subst e
          rcases ofCell_cases hc with rfl | ⟨lo, hi, rfl⟩ | ⟨k, rfl⟩ | rfl | ⟨p, rfl⟩ | ⟨p, k, off, rfl⟩ <;> simp [ofRoot])
        refine ⟨?_, rfl⟩
        rw [hg, if_neg n2]; exact h1
      · subst he
        have n2 : t ≠ st.s.length := fun e => hk (by subst e; simp [ofRoot])
        refine ⟨row, ?_, h2, rfl⟩
        rw [hg, if_neg n2]; exact h1
      · have n2 : t ≠ st.s.length := fun e => hk (by subst e; exact ofRoot_caps he ht)
        refine ⟨row, ?_, rfl, rfl⟩
        rw [hg, if_neg n2]; exact h1
theorem tree_turn (h : Rel T w0 S0 F st a w S bx ph) {t o : Nat} {sh : Sh} {c' : C} {hh' : Option Path} {pv' : Pv} {W : Nat → Prop} {rc0 : RC} (hc : (st.r.getD t .none).row[o]? = some rc0) (hcg : Chg W w w') (hW : ∀ b, W b → rc0.blk (ph t o) b)
  (hv : pv'.v = (ph t o).v) (hnew : RCRep T w' S pv' (.tree sh c' hh')) (hb : ∀ b, b ∈ pv'.blks → rc0.blk (ph t o) b ∨ (¬ S b ∧ b < w'.heap.size ∧ (∀ u κ, ¬ owns st.r bx ph u κ b) ∧ (w0.heap.size ≤ b ∨ F b))) (kp : X → Bool)
  (hkp : ∀ y v, kp y = false → ofCell t o y = true → XRep T w S st.r bx ph v y → XRep T w' S (setCellR st.r t o (.tree sh c' hh')) bx (fun u p => if u = t ∧ p = o then pv' else ph u p) v y) :
  Rel T w0 S0 F { s := kill kp st.s, r := setCellR st.r t o (.tree sh c' hh') } a w' S bx (fun u p => if u = t ∧ p = o then pv' else ph u p) ∧
   ∀ u κ b, owns (setCellR st.r t o (.tree sh c' hh')) bx (fun u p => if u = t ∧ p = o then pv' else ph u p) u κ b → (u = t ∧ κ = some o ∧ b ∈ pv'.blks) ∨ (owns st.r bx ph u κ b ∧ ¬ (u = t ∧ κ = some o)) := by
 have hin : o < (st.r.getD t .none).row.length := (List.getElem?_eq_some_iff.1 hc).1
 have hmine : ∀ b, rc0.blk (ph t o) b → owns st.r bx ph t (some o) b := fun b hb => own_blk hc hb
 have hown' : ∀ u κ b, owns (setCellR st.r t o (.tree sh c' hh')) bx (fun u p => if u = t ∧ p = o then pv' else ph u p) u κ b → (u = t ∧ κ = some o ∧ b ∈ pv'.blks) ∨ (owns st.r bx ph u κ b ∧ ¬ (u = t ∧ κ = some o)) := fun u κ b hb' => by
  cases κ with
  | none =>
   obtain ⟨row, h1, rfl⟩ := owns_box hb'
   refine .inr ⟨?_, by simp⟩
   rw [getD_setCell] at h1
   split at h1
   ·rename_i e1; subst e1
    cases hR : st.r.getD t .none with
    | box row' => exact owns_of_box hR
    | none => rw [hR] at h1; cases h1
    | loose row' => rw [hR] at h1; cases h1
   ·exact owns_of_box h1
  | some p =>
   obtain ⟨rc1, h1, h2⟩ := owns_cell hb'
   rw [row_setCell] at h1
   by_cases e2 : t = u
   ·subst e2
    rw [if_pos rfl, List.getElem?_set] at h1
    by_cases e3 : o = p
    ·subst e3
     rw [if_pos rfl, if_pos hin] at h1
     cases h1
     rw [if_pos ⟨rfl, rfl⟩] at h2
     exact .inl ⟨rfl, rfl, h2⟩
    ·rw [if_neg e3] at h1
     rw [if_neg (fun hh => e3 hh.2.symm)] at h2
     exact .inr ⟨own_blk h1 h2, fun hh => e3 (by have := hh.2; simp at this; exact this.symm)⟩
   ·rw [if_neg e2] at h1
    rw [if_neg (fun hh => e2 hh.1.symm)] at h2
    exact .inr ⟨own_blk h1 h2, fun hh => e2 hh.1.symm⟩
 have hS : ∀ b, S b → w'.heap[b]? = w.heap[b]? := fun b hb => hcg.block b (h.heap.low.1 b hb) fun hw => (h.heap.free _ _ _ (hmine b (hW b hw))).1 hb
 have hO : ∀ u κ b, owns st.r bx ph u κ b → ¬ (u = t ∧ κ = some o) → w'.heap[b]? = w.heap[b]? := fun u κ b hb hne => hcg.block b (h.heap.free _ _ _ hb).2 fun hw => hne (h.heap.inj _ _ _ _ b hb (hmine b (hW b hw)))
 have hlt : ∀ b, b ∈ pv'.blks → b < w'.heap.size ∧ ¬ S b ∧ (w0.heap.size ≤ b ∨ F b) := fun b hb' => by
  rcases hb b hb' with h1 | ⟨h1, h2, _, h3⟩
  ·have := h.heap.free _ _ _ (hmine b h1)
   exact ⟨Nat.lt_of_lt_of_le this.2 hcg.size, this.1, h.mine _ _ _ (hmine b h1)⟩
  ·exact ⟨h2, h1, h3⟩
 have hclash : ∀ u κ b, owns st.r bx ph u κ b → ¬ (u = t ∧ κ = some o) → b ∈ pv'.blks → False := fun u κ b h1 h2 h3 => by
  rcases hb b h3 with h4 | ⟨_, _, h4, _⟩
  ·exact h2 (h.heap.inj _ _ _ _ b h1 (hmine b h4))
  ·exact h4 u κ h1
 have hl : (kill kp st.s).length = st.s.length := by simp [kill]
 refine ⟨⟨by rw [hl]; exact h.size, ⟨by rw [hl, length_setCell]; exact h.rsize.1, fun t ht => h.rsize.2 t (by rw [hl] at ht; exact ht)⟩, h.defers, ⟨fun u => ?_, fun u κ u2 κ2 b h1 h2 => ?_, fun u κ b h1 => ?_, ⟨fun b hb => Nat.lt_of_lt_of_le (h.heap.low.1 b hb) hcg.size, h.heap.low.2.frame hS fun _ h => h⟩⟩, fun u κ b h1 => ?_, ?_, h.keep, h.new, ?_⟩, hown'⟩
 ·rw [getD_setCell]
  have hr := h.heap.root u
  have hcells : ∀ p (hp : p < (st.r.getD u .none).row.length), ¬ (u = t ∧ p = o) → RCRep T w' S (ph u p) (st.r.getD u .none).row[p] := fun p hp hne => by
   have hcp : (st.r.getD u .none).row[p]? = some (st.r.getD u .none).row[p] := List.getElem?_eq_getElem hp
   exact (h.heap.cell hcp).frame hS (fun _ h => h) fun b hb => hO u (some p) b (own_blk hcp hb) fun e => hne ⟨e.1, by simpa using e.2⟩
  have hbox : ∀ row, st.r.getD u .none = .box row → w'.heap[bx u]? = w.heap[bx u]? := fun row hR => hO u none _ (owns_of_box hR) (by simp)
  by_cases e1 : t = u
  ·subst e1
   rw [if_pos rfl]
   have key : ∀ row : List RC, (st.r.getD t .none).row = row → ∀ p (hp : p < (row.set o (.tree sh c' hh')).length), RCRep T w' S (if t = t ∧ p = o then pv' else ph t p) (row.set o (.tree sh c' hh'))[p] := fun row hrow p hp => by
    subst hrow
    by_cases e1 : o = p
    ·subst e1; rw [if_pos ⟨rfl, rfl⟩, List.getElem_set_self]; exact hnew
    ·rw [if_neg (fun hh => e1 hh.2.symm), List.getElem_set_ne e1]; exact hcells p (by simpa using hp) fun hh => e1 hh.2.symm
   cases hR : st.r.getD t .none with
   | none => trivial
   | box row =>
    rw [hR] at hr key
    obtain ⟨⟨arr, e2, h1, h2, h3⟩, _, h4⟩ := hr
    refine ⟨⟨arr, e2, (hbox row hR).trans h1, by simp [h2, Root.row], fun p hp => ?_⟩, key row rfl, fun p f hp => ?_⟩
    rotate_left
    ·have hp' : (row.set o (.tree sh c' hh'))[p]? = some (.me f) := hp
     rw [List.getElem?_set] at hp'
     split at hp'
     ·split at hp' <;> cases hp'
     ·rename_i e3; show meOk f (bx t) (if t = t ∧ p = o then pv' else ph t p).v; rw [if_neg (fun hh => e3 hh.2.symm)]; exact h4 p f hp'
    have hp' : p < row.length := by simpa [Root.row] using hp
    rw [h3 p hp']
    show some (ph t p).v = some (if t = t ∧ p = o then pv' else ph t p).v
    by_cases e3 : p = o
    ·subst e3; rw [if_pos ⟨rfl, rfl⟩, hv]
    ·rw [if_neg (fun hh => e3 hh.2)]
   | loose row => rw [hR] at key; exact key row rfl
  ·rw [if_neg e1]
   have e9 : (fun p => if u = t ∧ p = o then pv' else ph u p) = ph u := by funext p; rw [if_neg (fun hh => e1 hh.1.symm)]
   rw [e9]
   cases hR : st.r.getD u .none with
   | none => trivial
   | box row =>
    rw [hR] at hr hcells
    obtain ⟨⟨arr, e2, h1, h2⟩, h3, h4⟩ := hr
    exact ⟨⟨arr, e2, (hbox row hR).trans h1, h2⟩, fun p hp => hcells p hp fun hh => e1 hh.1.symm, h4⟩
   | loose row =>
    rw [hR] at hcells
    exact fun p hp => hcells p hp fun hh => e1 hh.1.symm
 ·rcases hown' u κ b h1 with ⟨rfl, rfl, a1⟩ | ⟨a1, a2⟩ <;> rcases hown' u2 κ2 b h2 with ⟨rfl, rfl, b1⟩ | ⟨b1, b2⟩
  ·exact ⟨rfl, rfl⟩
  ·exact (hclash _ _ _ b1 b2 a1).elim
  ·exact (hclash _ _ _ a1 a2 b1).elim
  ·exact h.heap.inj _ _ _ _ b a1 b1
 ·rcases hown' u κ b h1 with ⟨rfl, rfl, a1⟩ | ⟨a1, a2⟩
  ·exact ⟨(hlt b a1).2.1, (hlt b a1).1⟩
  ·have := h.heap.free _ _ _ a1; exact ⟨this.1, Nat.lt_of_lt_of_le this.2 hcg.size⟩
 ·rcases hown' u κ b h1 with ⟨rfl, rfl, a1⟩ | ⟨a1, a2⟩
  ·exact (hlt b a1).2.2
  ·exact h.mine _ _ _ a1
 ·refine slots_map (fun x => if kp x = true then .undef else x) (fun v y hy => ?_) h.slot
  split
  ·trivial
  ·rename_i hk
   have hk' : kp y = false := by simpa using hk
   cases hoc : ofCell t o y with
   | true => exact hkp y v hk' hoc hy
   | false =>
    have hy' := hy.frame (w' := w') hS (fun _ h => h)
    refine hy'.congr (fun t2 o2 rc2 hc2 _ h1 => ?_) (fun t2 o2 _ row h1 h2 => ?_) (fun f caps _ t2 _ row h1 => ?_)
    ·have hne : ¬ (t2 = t ∧ o2 = o) := fun e => by rw [e.1, e.2, hoc] at hc2; cases hc2
     refine ⟨?_, if_neg hne⟩
     rw [row_setCell]
     split
     ·rename_i e1; subst e1
      rw [List.getElem?_set, if_neg (fun e => hne ⟨rfl, e.symm⟩)]; exact h1
     ·exact h1
    ·obtain ⟨row', a1, b1⟩ := box_setCell (t := t) (o := o) (rc := .tree sh c' hh') h1
     exact ⟨row', a1, by omega, rfl⟩
    ·obtain ⟨row', a1, b1⟩ := box_setCell (t := t) (o := o) (rc := .tree sh c' hh') h1
     exact ⟨row', a1, b1, rfl⟩
 ·refine ⟨hcg.os.trans h.chg.os, hcg.tape.trans h.chg.tape, hcg.output.trans h.chg.output, Nat.le_trans h.chg.size hcg.size, fun b hb hF => ?_⟩
  rw [hcg.block b (Nat.lt_of_lt_of_le hb h.chg.size) fun e => by
   rcases h.mine _ _ _ (hmine b (hW b e)) with h1 | h1
   ·omega
   ·exact hF h1]
  exact h.chg.block b hb hF
theorem view_stays {t o : Nat} {sh : Sh} {c c' : C} {hh hh' : Option Path} {r : List Root} {p : Path} {q q' : Pv} (hc : (r.getD t .none).row[o]? = some (.tree sh c hh)) (hg : (ph t o).get? p = some q) {m : Nat}
  (hm : ∀ p' : Path, p'.length < m → p'.length < p.length ∨ (p'.length = p.length ∧ q'.v = q.v ∧ q'.b = q.b)) {y : X} {v : Value} (hy : XRep T w S r bx ph v y) (hoc : ofCell t o y = true) (hk : ofKid t o m y = false) :
  XRep T w' S (setCellR r t o (.tree sh c' hh')) bx (fun u p' => if u = t ∧ p' = o then (ph t o).put p q' else ph u p') v y := by
 have hin : o < (r.getD t .none).row.length := (List.getElem?_eq_some_iff.1 hc).1
 have hnew : ((setCellR r t o (.tree sh c' hh')).getD t .none).row[o]? = some (.tree sh c' hh') := by
  rw [row_setCell, if_pos rfl, List.getElem?_set, if_pos rfl, if_pos hin]
 rcases ofCell_cases hoc with rfl | ⟨lo, hi, rfl⟩ | ⟨k, rfl⟩ | rfl | ⟨p', rfl⟩ | ⟨p', k, off, rfl⟩
 ·obtain ⟨_, _, _, h1, _⟩ := hy; rw [hc] at h1; cases h1
 ·obtain ⟨_, _, _, _, _, _, h1, _⟩ := hy; rw [hc] at h1; cases h1
 ·obtain ⟨_, _, _, _, _, h1, _⟩ := hy; rw [hc] at h1; cases h1
 ·obtain ⟨_, _, h1, _⟩ := hy; rw [hc] at h1; cases h1
 ·obtain ⟨sh1, c1, hh1, q1, h1, h2, h3, h4, h5, h6⟩ := hy
  rw [hc] at h1; cases h1
  have hlen : p'.length < m := by simpa [ofKid] using hk
  obtain ⟨q2, k1, k2, k3⟩ := Pv.put_get p' p hg h2 (hm p' hlen)
  exact ⟨sh, c', hh', q2, hnew, by show (if t = t ∧ o = o then (ph t o).put p q' else ph t o).get? p' = some q2; rw [if_pos ⟨rfl, rfl⟩]; exact k1, h3, h4, fun hb => by rw [k2]; exact h5 (by rw [← k3]; exact hb), by rw [k2]; exact h6⟩
 ·obtain ⟨sh1, c1, hh1, q1, e, ks, g, n, cap, h1, h2, h3, h4, h5, h6, h7, h8⟩ := hy
  rw [hc] at h1; cases h1
  have hlen : p'.length < m := by simpa [ofKid] using hk
  obtain ⟨q2, k1, k2, k3⟩ := Pv.put_get p' p hg h2 (hm p' hlen)
  exact ⟨sh, c', hh', q2, e, ks, g, n, cap, hnew, by show (if t = t ∧ o = o then (ph t o).put p q' else ph t o).get? p' = some q2; rw [if_pos ⟨rfl, rfl⟩]; exact k1, h3, h4, by rw [k3]; exact h5, by rw [k2]; exact h6, h7, h8⟩
end Go.Proofs.Ytcpcghnpoekhpaa.A
/- The ghost machine: trees are built, made, written. -/
set_option linter.unusedSimpArgs false
set_option linter.unusedVariables false
set_option maxRecDepth 100000
set_option maxHeartbeats 4000000
namespace Go.Proofs.Ytcpcghnpoekhpaa.A
open Go Go.RowKit
variable {P : Program} {T : TT} {w w' w0 : World} {S S0 : Nat → Prop} {F : Fr} {bx : Nat → Nat} {ph : Nat → Nat → Pv} {a : Act} {st st' : St}
theorem build_run (hT : TOk P T) (h : Rel T w0 S0 F st a w S bx ph) {t e : TypeId} {te : TI} {len : Nat} {parts : Array (Nat × Operand)}
    (hd : descOf T t = .slice e) (hte : T e = some te) (hix : parts.toList.map (·.1) = List.range len) (hall : ∀ p ∈ parts.toList, (cellsOfV (ev st.s p.2)).length = te.size) (hsmall : len * te.size ≤ 2 ^ 24) (hz : te.size ≠ 0) :
    ∃ cells' : Array Value, (Instr.buildSlice t len (parts.map fun p => (p.1, a.eval p.2))).run P w = .ok (.slice (some ⟨w.heap.size, 0, none⟩) len len) (w.alloc (.cells cells' e)) ∧ cells'.toList.length = len * te.size ∧
      cells'.toList.length = ((parts.toList.map fun p => cellsOfV (ev st.s p.2)).flatten).length ∧
      ∀ k (h1 : k < ((parts.toList.map fun p => cellsOfV (ev st.s p.2)).flatten).length) (h2 : k < cells'.toList.length), XRep T w S st.r bx ph cells'.toList[k] ((parts.toList.map fun p => cellsOfV (ev st.s p.2)).flatten)[k] := by
  obtain ⟨_, ie, hie, his, hib, hiz, _⟩ := hT e te hte
  have ud := desc_of hT hd (by simp)
  have hlen : parts.toList.length = len := by have := congrArg List.length hix; simpa using this
  obtain ⟨f1, f2⟩ := flat_values (us := parts.toList.map fun p => ev st.s p.2) h.heap (vs := parts.toList.map fun p => a.eval p.2) (by simp) (fun k h1 h2 => by
    simp only [List.getElem_map]; exact ev_sound h _) (fun u hu => by
      obtain ⟨p, hp, rfl⟩ := List.mem_map.1 hu
      intro h0
      have := hall p hp
      rw [h0] at this
      exact hz this.symm)
  have e1 : ((parts.toList.map fun p => ev st.s p.2).map cellsOfV).flatten = (parts.toList.map fun p => cellsOfV (ev st.s p.2)).flatten := by rw [List.map_map]; rfl
  rw [e1] at f1 f2
  have hvsz : ∀ v ∈ parts.toList.map (fun p => a.eval p.2), v.cells.size = te.size := fun v hv => by
    obtain ⟨p, hp, rfl⟩ := List.mem_map.1 hv
    have hne : cellsOfV (ev st.s p.2) ≠ [] := fun h0 => by
      have := hall p hp
      rw [h0] at this; exact hz this.symm
    rw [(cellsOf_sound h.heap (ev_sound h p.2) hne).1]; exact hall p hp
  obtain ⟨cells', g1, g2⟩ := fill_range (sz := te.size) (parts.toList.map fun p => a.eval p.2) 0 (parts.map fun p => (p.1, a.eval p.2)).toList ((Array.range (len * ie.size)).map (te.zero.cells[· % te.zero.cells.size]!))
    (by
      simp only [Array.toList_map, List.map_map, List.length_map, hlen]
      have : (fun x => 0 + x) = (id : Nat → Nat) := by funext x; simp
      rw [this, List.map_id, ← hix]; rfl)
    (by simp only [Array.toList_map, List.map_map]; rfl) (by simp [hlen, his]) hvsz
  simp only [Nat.zero_mul, List.take_zero, List.nil_append] at g2
  have hrun : (Instr.buildSlice t len (parts.map fun p => (p.1, a.eval p.2))).run P w = .ok (.slice (some ⟨w.heap.size, 0, none⟩) len len) (w.alloc (.cells cells' e)) := by
    by_cases hz0 : len * te.size = 0
    · have hl0 : len = 0 := by
        rcases Nat.mul_eq_zero.1 hz0 with h0 | h0
        · exact h0
        · exact absurd h0 hz
      subst hl0
      have hp0 : parts = #[] := by
        apply Array.eq_empty_of_size_eq_zero; simpa using hlen
      subst hp0
      have hc0 : cells' = #[] := by
        apply Array.toList_inj.1; rw [g2]; rfl
      subst hc0
      simp [Instr.buildSlice, run_underlying ud, sizeOf, typeInfo, hie, newRow, Instr.fill, Array.range_zero']
    · exact run_buildSlice (P := P) w t e len _ cells' ie te.zero ud hie hiz (by rw [his]; omega) (by rw [his]; exact hz0) (by rw [his]; rw [his] at g1; exact g1)
  have hcl2 : cells'.toList.length = len * te.size := by
    rw [g2, f1]
    have key : ∀ l : List (Nat × Operand), (∀ p ∈ l, (cellsOfV (ev st.s p.2)).length = te.size) → ((l.map fun p => cellsOfV (ev st.s p.2)).flatten).length = l.length * te.size := fun l => by
      induction l with
      | nil => intro _; simp
      | cons p l ih =>
        intro hl
        rw [List.map_cons, List.flatten_cons, List.length_append, ih (fun q hq => hl q (List.mem_cons_of_mem _ hq)), hl p (List.mem_cons_self ..), List.length_cons, Nat.succ_mul]; omega
    rw [key _ hall, hlen]
  refine ⟨cells', hrun, hcl2, by rw [g2, f1], fun k h1 h2 => ?_⟩
  have q3 : k < ((parts.toList.map fun p => a.eval p.2).map fun v => v.cells.toList).flatten.length := by rw [← g2]; exact h2
  have e2 : cells'.toList[k] = (((parts.toList.map fun p => a.eval p.2).map fun v => v.cells.toList).flatten)[k] := by congr 1
  rw [e2]
  exact f2 k h1 q3
theorem node_of {e : TypeId} {ks : List Sh} {n cap g : Nat} {xs : List Value} {cs : List C} {qs : List Pv} (h1 : w.ownsRow 0 e (szOf T e) (.slice (some ⟨g, 0, none⟩) n cap) n xs) (h2 : cs.length = xs.length) (h3 : qs.length = xs.length)
  (h4 : ∀ k (a1 : k < xs.length) (a2 : k < qs.length) (a3 : k < cs.length), CRepT T w S none (ks.getD (k % szOf T e) .st) xs[k] qs[k] cs[k]) (h5 : g ∉ blksL qs) (h6 : (blksL qs).Nodup) :
  RCRep T w S (.mk (.slice (some ⟨g, 0, none⟩) n cap) (some g) qs) (.tree (.sl e ks) (.sl n cs) none) :=
 ⟨.node (by simp) (fun _ _ hh => by cases hh) h1 h2 h3 h4, by show ([g] ++ blksL qs).Nodup; exact List.nodup_cons.2 ⟨h5, h6⟩, ⟨_, _, rfl⟩, fun p hp => by cases hp⟩
theorem mem_node {v : Value} {g b : Nat} {qs : List Pv} : b ∈ (Pv.mk v (some g) qs).blks ↔ b = g ∨ b ∈ blksL qs := by
 show b ∈ [g] ++ blksL qs ↔ _
 simp
theorem treeBuild_sound (hT : TOk P T) (h : Rel T w0 S0 F st a w S bx ph) (hsp : st.r.getD st.s.length .none = .none) {t e : TypeId} {te : TI} {len : Nat} {parts : Array (Nat × Operand)} {cs : List C} {st1 : St}
    (hd : descOf T t = .slice e) (hte : T e = some te) (hix : parts.toList.map (·.1) = List.range len) (hall : ∀ p ∈ parts.toList, (cellsOfV (ev st.s p.2)).length = te.size) (hsmall : len * te.size ≤ 2 ^ 24) (hz : te.size ≠ 0)
    (hp : pushAll T (std P T) st (parts.toList.map fun p => cellsOfV (ev st.s p.2)).flatten = some st1) (hrow : rowT te.kids te.size 0 (rootOf st1.r st.s.length).row = some cs) {dst : Option Nat} (hdst : ∀ k, dst = some k → k < st.s.length) :
    ∃ z w', (Instr.buildSlice t len (parts.map fun p => (p.1, a.eval p.2))).run P w = .ok z w' ∧
      Rels T w0 S0 F (fin { dropN st1 with r := pushR (dropN st1).r st.s.length (.tree (.sl e te.kids) (.sl len cs) none) } dst (fun d => .one (.tv d 0 []))) (a.put dst z) w' ∧ Old w w' := by
  obtain ⟨cells', hrun, c1, c2, c3⟩ := build_run (a := a) hT h hd hte hix hall hsmall hz
  refine ⟨_, _, hrun, ?_, old_alloc _⟩
  have hszT : szOf T e = te.size := by simp [szOf, hte]
  have hb0 : ∀ row, st.r.getD st.s.length .none ≠ .box row := by rw [hsp]; exact fun _ h => by cases h
  obtain ⟨ph', q⟩ := pushAll_sound _ cells'.toList st ph h hb0 c2 c3 hp
  obtain ⟨rcs, r1, r2⟩ := q.row
  have hl0 : (st.r.getD st.s.length .none).row = [] := by rw [hsp]; rfl
  rw [hl0, List.nil_append] at r2
  have hvals : ∀ k (hk : k < cells'.toList.length), (ph' st.s.length k).v = cells'.toList[k] := fun k hk => by
    have := q.vals k hk
    rw [hl0] at this
    simpa using this
  have hrN : (rootOf st1.r st.s.length).row = rcs := r2
  rw [hrN] at hrow
  have hcell : ∀ k (hk : k < rcs.length), (st1.r.getD st.s.length .none).row[k]? = some rcs[k] := fun k hk => by rw [r2, List.getElem?_eq_getElem hk]
  obtain ⟨qs, s1, s2, s3, s4, s5⟩ := rowT_sound (φ := ph' st.s.length) (fun k hk => q.rel.heap.cell (hcell k hk)) hrow (fun k k' hk hk' b h1 h2 => by
    have := (q.rel.heap.inj _ _ _ _ b (own_blk (hcell k hk) h1) (own_blk (hcell k' hk') h2)).2
    simpa using this)
  have hqown : ∀ b, b ∈ blksL qs → ∃ k, owns st1.r bx ph' st.s.length (some k) b := fun b hb => by
    obtain ⟨k, hk, hb2⟩ := (s4 b).1 hb
    exact ⟨k, own_blk (hcell k hk) hb2⟩
  obtain ⟨d1, d2, d3, d4, d5⟩ := dropN_sound q.rel
  have hlt : ∀ b, b ∈ blksL qs → b < w.heap.size := fun b hb => by
    obtain ⟨k, hk⟩ := hqown b hb; exact (q.rel.heap.free _ _ _ hk).2
  have hlen3 : rcs.length = cells'.toList.length := r1
  have hlm : len ≤ maxLen := by
    have : len ≤ len * te.size := Nat.le_mul_of_pos_right _ (by omega)
    unfold maxLen; omega
  have hown : (w.alloc (.cells cells' e)).ownsRow 0 e (szOf T e) (.slice (some ⟨w.heap.size, 0, none⟩) len len) len cells'.toList := by
    refine ⟨by rw [hszT]; exact c1, .inr ⟨w.heap.size, len, cells', rfl, Nat.zero_le _, ?_, Nat.le_refl _, hlm, by rw [hszT, ← c1]; simp, by rw [hszT, List.take_of_length_le (by omega)]⟩⟩
    show (w.heap.push _)[_]? = _
    simp
  have hrc : RCRep T (w.alloc (.cells cells' e)) S (.mk (.slice (some ⟨w.heap.size, 0, none⟩) len len) (some w.heap.size) qs) (.tree (.sl e te.kids) (.sl len cs) none) := by
    refine node_of hown (by omega) (by omega) (fun k a1 a2 a3 => ?_) (fun hh => ?_) s5
    · have := s3 k a2 a3
      rw [Nat.zero_add, ← hszT, hvals k a1] at this
      exact this.frame (fun b hb => old_alloc _ b (q.rel.heap.low.1 b hb)) (fun _ h => h) fun b hb => old_alloc _ b (hlt b (mem_blksL.2 ⟨k, a2, hb⟩))
    · have := hlt _ hh; omega
  have := rc_fin d1 d2 (w' := w.alloc (.cells cells' e)) (W := fun b => b ∈ blksL qs) ((Chg.alloc (fun _ => False) w _).mono fun _ _ hf => hf.elim) (fun b _ hb => by
    obtain ⟨k, hk⟩ := hqown b hb
    refine ⟨(q.rel.heap.free _ _ _ hk).1, fun t κ ho => ?_, q.rel.mine _ _ _ hk⟩
    obtain ⟨n1, n2⟩ := d5 t κ b ho
    exact n1 ((q.rel.heap.inj _ _ _ _ b n2 hk).1.trans q.len.symm)) hrc (fun b hb => by
    rcases mem_node.1 hb with rfl | hb
    · exact ⟨by simp, .inl (Nat.le_refl _)⟩
    · exact ⟨by have := hlt b hb; simp; omega, .inr hb⟩) (dst := dst) (fun k hk => by rw [d3, q.len]; exact hdst k hk)
  rw [d3, q.len] at this
  exact this
theorem flat_tree {e : TypeId} {ks : List Sh} {z : Value} {n : Nat} {cells : List C} (h : RCRep T w S (.of z) (.own e n cells)) (hk : ∀ k (h : k < cells.length), toT (ks.getD (k % szOf T e) .st) (.st cells[k]) = some cells[k]) :
  ∃ pv : Pv, pv.v = z ∧ RCRep T w S pv (.tree (.sl e ks) (.sl n cells) none) ∧ ∀ b, b ∈ pv.blks ↔ z.ownBlock = some b := by
 obtain ⟨xs, h1, h2, h3⟩ := h
 have h1' : w.ownsRow 0 e (szOf T e) z n xs := h1
 rcases h1'.2 with ⟨hv, hn⟩ | ⟨g, cap, cur, hv, hB, hheap, hn, hc, hs, ht⟩
 ·subst hv; subst hn
  have : cells = [] := List.eq_nil_of_length_eq_zero (by rw [← h2, h1'.1]; simp)
  subst this
  exact ⟨.mk nilSl none [], rfl, ⟨.nil (.inr rfl), by simp [Pv.blks, blksL], ⟨_, _, rfl⟩, fun p hp => by cases hp⟩, fun b => by simp [Pv.blks, blksL, Value.ownBlock]⟩
 ·subst hv
  obtain ⟨qs, q1, q2⟩ := choose_list (n := xs.length) (R := fun k q => ∃ a1 : k < xs.length, ∃ a2 : k < cells.length, CRepT T w S none (ks.getD (k % szOf T e) .st) xs[k] q cells[k] ∧ q.blks = []) fun k hk1 => by
   have hk2 : k < cells.length := by omega
   obtain ⟨q, b1, b2, _⟩ := toT_sound (rc := .st cells[k]) (pv := .of xs[k]) (show RCRep T w S (.of xs[k]) (.st cells[k]) from h3 k hk2 hk1) (hk k hk2)
   exact ⟨q, hk1, hk2, b1, List.eq_nil_iff_forall_not_mem.2 fun b hb => (b2 b).1 hb⟩
  have hbl : blksL qs = [] := List.eq_nil_iff_forall_not_mem.2 fun b hb => by
   obtain ⟨k, hk1, hb2⟩ := mem_blksL.1 hb
   obtain ⟨_, _, _, b4⟩ := q2 k hk1
   rw [b4] at hb2; simp at hb2
  refine ⟨_, rfl, node_of (qs := qs) h1' (by omega) q1 (fun k a1 a2 a3 => ?_) (by rw [hbl]; simp) (by rw [hbl]; simp), fun b => ?_⟩
  ·obtain ⟨_, _, b3, _⟩ := q2 k a2; exact b3
  ·rw [mem_node, hbl]; simp [Value.ownBlock, eq_comm]
theorem treeMake_sound (hT : TOk P T) (h : Rel T w0 S0 F st a w S bx ph) (hsp : st.r.getD st.s.length .none = .none) {t e : TypeId} {te : TI} {l c : Int} {kl kc : IntKind} {zs zs' : List C}
    (hd : descOf T t = .slice e) (hte : T e = some te) (hzs : optAll ((cellsOfV (constV te.zero)).map (stab T (std P T) st.r)) = some zs) (hzl : zs.length = te.size) (hz : te.size ≠ 0) (hby : te.bytes ≠ 0)
    (hrow : rowT te.kids te.size 0 (zs.map RC.st) = some zs') (h0 : 0 ≤ l) (h1 : l ≤ c) (h2 : c.toNat * te.bytes ≤ 140737488355328) {dst : Option Nat} (hdst : ∀ k, dst = some k → k < st.s.length) :
    ∃ z w', (Instr.makeSlice t (.int kl l) (.int kc c)).run P w = .ok z w' ∧
      Rels T w0 S0 F (fin { st with r := pushR st.r st.s.length (.tree (.sl e te.kids) (.sl l.toNat (repC l.toNat zs')) none) } dst (fun d => .one (.tv d 0 []))) (a.put dst z) w' ∧ Old w w' := by
  obtain ⟨z, w', r1, r2, r3, r4, r5⟩ := make_core (kl := kl) (kc := kc) hT h hd hte hzs hzl hz hby h0 h1 h2
  have hszT : szOf T e = te.size := by simp [szOf, hte]
  obtain ⟨g1, g2⟩ := rowT_get hrow
  rw [List.length_map] at g1
  have hzz : zs' = zs := by
    apply List.ext_getElem g1
    intro k k1 k2
    have := g2 k (by simpa using k2) k1
    simp only [List.getElem_map, toT] at this
    split at this
    · exact (Option.some.inj this).symm
    · rename_i e1; rw [e1]; exact (Option.some.inj this).symm
    · cases this
  subst hzz
  obtain ⟨pv, p1, p2, p3⟩ := flat_tree (ks := te.kids) r2 (fun k hk => by
    obtain ⟨q3, q4⟩ := repC_get _ _ k hk
    rw [q4, hszT]
    have := g2 (k % zs'.length) (by simpa using q3) q3
    simp only [List.getElem_map, Nat.zero_add] at this
    have e1 : k % zs'.length % te.size = k % te.size := by rw [hzl]; exact Nat.mod_mod ..
    rw [e1] at this
    exact this)
  refine ⟨z, w', r1, ?_, r5⟩
  have := rc_fin h hsp (w' := w') (W := fun _ => False) (pv := pv) r3 (fun _ _ hf => hf.elim) p2 (fun b hb => by
    have := r4 b ((p3 b).1 hb); exact ⟨this.1, .inl this.2⟩) hdst
  rw [p1] at this
  exact this
end Go.Proofs.Ytcpcghnpoekhpaa.A
/- The ghost machine: stores into trees. -/
set_option linter.unusedSimpArgs false
set_option linter.unusedVariables false
set_option maxRecDepth 100000
set_option maxHeartbeats 4000000
namespace Go.Proofs.Ytcpcghnpoekhpaa.A
open Go Go.RowKit
variable {P : Program} {T : TT} {w w' w0 : World} {S S0 : Nat → Prop} {F : Fr} {bx : Nat → Nat} {ph : Nat → Nat → Pv} {a : Act} {st st' : St}
theorem fillObl_sound : ∀ (q p : Path) (k off n : Nat) (obl : List Prop), fillObl (std P T) p k off n q = some obl → (∀ x ∈ obl, x) → ∃ i, i < n ∧ pathN q = pathN p ++ [k + i] := by
 intro q
 induction q with
 | nil => intro p k off n obl h; cases p <;> cases h
 | cons x q ih =>
  obtain ⟨a, b⟩ := x
  intro p k off n obl h ho
  cases q with
  | nil =>
   cases p with
   | cons _ _ => cases h
   | nil =>
    simp only [fillObl] at h
    split at h
    ·rename_i hc
     cases h
     have h1 : a ≤ plus (std P T) k (b - off) := ho _ (List.mem_cons_self ..)
     have h2 : plus (std P T) k (b - off) ≤ a := ho _ (List.mem_cons_of_mem _ (List.mem_cons_self ..))
     rw [plus_std] at h1 h2
     exact ⟨b - off, by omega, by show [a] = [k + (b - off)]; rw [show a = k + (b - off) by omega]⟩
    ·cases h
  | cons y q =>
   cases p with
   | nil => cases h
   | cons z p =>
    obtain ⟨c, d⟩ := z
    simp only [fillObl] at h
    split at h
    ·rename_i l hl
     cases h
     have h1 : a ≤ c := ho _ (List.mem_cons_self ..)
     have h2 : c ≤ a := ho _ (List.mem_cons_of_mem _ (List.mem_cons_self ..))
     obtain ⟨i, i1, i2⟩ := ih p k off n l hl (fun x hx => ho x (List.mem_cons_of_mem _ (List.mem_cons_of_mem _ hx)))
     refine ⟨i, i1, ?_⟩
     show a :: pathN (y :: q) = c :: (pathN p ++ [k + i])
     rw [i2, show a = c by omega]
    ·cases h
theorem blksL_append (l r : List Pv) : blksL (l ++ r) = blksL l ++ blksL r := by
 induction l with
 | nil => rfl
 | cons x l ih => rw [List.cons_append, blksL, blksL, ih, List.append_assoc]
theorem node_write {h0 : Option (List Nat)} {e : TypeId} {ks : List Sh} {u : Value} {q : Pv} {c0 : C} {g n cap k m : Nat} {zs : List Value} {cs : List C} {qs : List Pv} {cur : Array Value}
  (hn : CRepT T w S h0 (.sl e ks) u q c0) (hb : q.b = some g) (hv : q.v = .slice (some ⟨g, 0, none⟩) n cap) (hzs : zs.length = m) (hcs : cs.length = m) (hqs : qs.length = m) (hfit : k + m ≤ (gc c0).length)
  (hheap : w.heap[g]? = some (.cells cur e (0, 0))) (hheap' : w'.heap[g]? = some (.cells (cur.toList.take k ++ zs ++ cur.toList.drop (k + m)).toArray e (0, 0)))
  (hS : ∀ b, S b → w'.heap[b]? = w.heap[b]?) (ho : ∀ b, b ∈ blksL q.kids → w'.heap[b]? = w.heap[b]?) (hh : h0 = none ∨ ∃ i, i < m ∧ h0 = some [k + i])
  (hz : ∀ i (a1 : i < zs.length) (a2 : i < qs.length) (a3 : i < cs.length), CRepT T w' S none (ks.getD ((k + i) % szOf T e) .st) zs[i] qs[i] cs[i]) :
  CRepT T w' S none (.sl e ks) u (.mk q.v (some g) (q.kids.take k ++ qs ++ q.kids.drop (k + m))) (.sl (gn c0) (setC (gc c0) k cs)) := by
 have hu := hn.val
 rcases hn.sl_cases (fun hb' => by rw [hb] at hb'; cases hb') with ⟨_, _, _, q4, _⟩ | ⟨g', cap', xs, q1, q2, q3, q4, q5, _, _, q8⟩
 ·rw [hb] at q4; cases q4
 ·rw [hb] at q1; cases q1
  rw [hv] at q2
  rw [hu, hv]
  rw [hv] at q3
  have hnn : n = gn c0 ∧ cap = cap' := by cases q2; exact ⟨rfl, rfl⟩
  obtain ⟨hnn, _⟩ := hnn
  obtain ⟨y10, y11⟩ := q3
  rcases y11 with ⟨hv', _⟩ | ⟨g2, cap2, cur2, hv', _, hheap2, hn2, hm2, hs2, ht2⟩
  ·cases hv'
  ·cases hv'
   rw [hheap] at hheap2; cases hheap2
   have hxs : k + m ≤ xs.length := by omega
   have hcl : xs.length ≤ cur.size := by rw [y10, hs2]; exact Nat.mul_le_mul_right _ hn2
   have hfit2 : k + m ≤ cur.toList.length := by rw [Array.length_toList]; omega
   have hkid : k + m ≤ q.kids.length := by omega
   have hset : setC (gc c0) k cs = (gc c0).take k ++ cs ++ (gc c0).drop (k + m) := by unfold setC; rw [hcs]
   rw [hset, ← hnn]
   refine .node (by simp) (fun _ _ hh => by cases hh) (xs := xs.take k ++ zs ++ xs.drop (k + m)) ⟨?_, .inr ⟨g, _, _, rfl, Nat.zero_le _, hheap', by rw [hnn]; exact hn2, hm2, ?_, ?_⟩⟩ ?_ ?_ fun j j1 j2 j3 => ?_
   ·rw [spl_length hzs hxs, y10, hnn]
   ·rw [List.size_toArray, spl_length hzs hfit2, Array.length_toList, hs2]
   ·apply List.ext_getElem?
    intro j
    rw [List.getElem?_take, List.toList_toArray, spl_get hzs hfit2, spl_get hzs hxs, ← ht2, List.getElem?_take, hnn]
    by_cases hj : j < gn c0 * szOf T e
    ·simp only [if_pos hj]
    ·simp only [if_neg hj]
     rw [if_neg (by omega)]
   ·rw [spl_length hcs hfit, spl_length hzs hxs, q4]
   ·rw [spl_length hqs hkid, spl_length hzs hxs, q5]
   ·have x1 := spl_get hzs hxs j
    have x2 := spl_get hqs hkid j
    have x3 := spl_get hcs hfit j
    have l1 : j < xs.length := by rw [spl_length hzs hxs] at j1; exact j1
    by_cases hj : k ≤ j ∧ j < k + m
    ·rw [if_pos hj, List.getElem?_eq_getElem (show j - k < zs.length by omega)] at x1
     rw [if_pos hj, List.getElem?_eq_getElem (show j - k < qs.length by omega)] at x2
     rw [if_pos hj, List.getElem?_eq_getElem (show j - k < cs.length by omega)] at x3
     rw [get_of j1 x1, get_of j2 x2, get_of j3 x3]
     have := hz (j - k) (by omega) (by omega) (by omega)
     rw [show k + (j - k) = j by omega] at this
     exact this
    ·rw [if_neg hj, List.getElem?_eq_getElem l1] at x1
     rw [if_neg hj, List.getElem?_eq_getElem (show j < q.kids.length by omega)] at x2
     rw [if_neg hj, List.getElem?_eq_getElem (show j < (gc c0).length by omega)] at x3
     rw [get_of j1 x1, get_of j2 x2, get_of j3 x3]
     have := q8 j l1 (by omega) (by omega)
     have hho : holeAt h0 j = none := by
      rcases hh with rfl | ⟨i, i1, rfl⟩
      ·rfl
      ·exact holeAt_ne (by omega)
     rw [hho] at this
     exact this.frame hS (fun _ h => h) fun b hb => ho b (mem_blksL.2 ⟨j, by omega, hb⟩)
theorem treeStore_sound (hT : TOk P T) (h : Rel T w0 S0 F st a w S bx ph) (hsp : st.r.getD st.s.length .none = .none) {t : TypeId} {ti : TI} (ht : T t = some ti) {t' o k off : Nat} {p : Path} {x u : Value} {xs : List X} {st1 : St} {sh : Sh} {c : C} {hh : Option Path} {e : TypeId} {ks : List Sh} {n : Nat} {cells : List C} {cs : List C} {obl : List Prop}
    (hu : XRep T w S st.r bx ph u (.tp t' o p k off)) (hx : XsRep T w S st.r bx ph x.cells xs) (hxl : xs.length = ti.size) (hz : ti.size ≠ 0) (hne : t' ≠ st.s.length) (hp : pushAll T (std P T) st xs = some st1)
    (htree : treeAt st1.r t' o = some (sh, c, hh)) (hnode : nodeAt (std P T) st1.r t' o p = some (e, ks, n, cells)) (hfit : off + ti.size ≤ szOf T e) (hrow : rowT ks (szOf T e) off (rootOf st1.r st.s.length).row = some cs)
    (hobl : (match (generalizing := false) hh with | none => some [] | some q => fillObl (std P T) p k off ti.size q) = some obl) (hok : ∀ q ∈ obl, q) (hle : k + ti.size ≤ cells.length) :
    ∃ w', (Instr.storeAt t u x).run P w = .ok () w' ∧
      Rels T w0 S0 F { s := kill (ofKid t' o (p.length + 1)) (dropN st1).s, r := setCellR (dropN st1).r t' o (.tree sh (updC (fun nd => .sl (gn nd) (setC (gc nd) k cs)) c p) none) } a w' := by
  have hb0 : ∀ row, st.r.getD st.s.length .none ≠ .box row := by rw [hsp]; exact fun _ h => by cases h
  obtain ⟨ph', q⟩ := pushAll_sound xs x.cells.toList st ph h hb0 (by rw [Array.length_toList]; exact hx.1) (fun k hk hk2 => by simpa using hx.2 k hk (by simpa using hk2)) hp
  obtain ⟨rcs, r1, r2⟩ := q.row
  have hl0 : (st.r.getD st.s.length .none).row = [] := by rw [hsp]; rfl
  rw [hl0, List.nil_append] at r2
  have hxs : x.cells.size = ti.size := by rw [hx.1, hxl]
  have hxt : x.cells.toList.length = ti.size := by rw [Array.length_toList, hxs]
  have hvals : ∀ k (hk : k < x.cells.toList.length), (ph' st.s.length k).v = x.cells.toList[k] := fun k hk => by
    have := q.vals k hk
    rw [hl0] at this
    simpa using this
  have hrN : (rootOf st1.r st.s.length).row = rcs := r2
  rw [hrN] at hrow
  have hcell : ∀ k (hk : k < rcs.length), (st1.r.getD st.s.length .none).row[k]? = some rcs[k] := fun k hk => by rw [r2, List.getElem?_eq_getElem hk]
  obtain ⟨qs, s1, s2, s3, s4, s5⟩ := rowT_sound (φ := ph' st.s.length) (fun k hk => q.rel.heap.cell (hcell k hk)) hrow (fun k k' hk hk' b h1 h2 => by
    have := (q.rel.heap.inj _ _ _ _ b (own_blk (hcell k hk) h1) (own_blk (hcell k' hk') h2)).2
    simpa using this)
  have hqown : ∀ b, b ∈ blksL qs → ∃ k, owns st1.r bx ph' st.s.length (some k) b := fun b hb => by
    obtain ⟨k, hk, hb2⟩ := (s4 b).1 hb
    exact ⟨k, own_blk (hcell k hk) hb2⟩
  obtain ⟨d1, d2, d3, d4, d5⟩ := dropN_sound q.rel
  -- the tree
  have hc1 := treeAt_eq htree
  have hsame : (st.r.getD t' .none).row[o]? = some (.tree sh c hh) := by
    rcases q.same t' o hne with h1 | h1
    · rw [← h1]; exact hc1
    · rw [hc1] at h1; cases h1
  obtain ⟨sh', c', hh', qn, e2, ks2, g, n2, cap, m1, m2, m3, m4, m5, m6, ⟨i0, m7⟩, rfl⟩ := hu
  rw [hsame] at m1; cases m1
  obtain ⟨sh2, c2, hh2, k1, k2, rfl, rfl⟩ := nodeAt_eq hnode
  rw [hc1] at k1; cases k1
  rw [k2] at m4; cases m4
  have hph : ph' t' o = ph t' o := q.phs t' o hne
  have hcd : ((dropN st1).r.getD t' .none).row[o]? = some (.tree sh c hh) := by
    rw [d4 t' (by rw [q.len]; exact hne)]; exact hc1
  have hrep := d1.heap.cell hcd
  obtain ⟨t1, t2, t3, t4⟩ := hrep
  rw [← hph] at m2
  have hgb : g ∈ qn.blks := by obtain ⟨v0, b0, ks0⟩ := qn; cases (show b0 = some g from m5); exact mem_blks.2 (.inl rfl)
  have hgt : g ∈ (ph' t' o).blks := Pv.get_blks p m2 g hgb
  obtain ⟨hp', uu, g1, _, _⟩ := CRepT.get p t1 m2 m3
  rw [k2] at g1
  obtain ⟨cur, hheap, hcur⟩ : ∃ cur : Array Value, w.heap[g]? = some (.cells cur e (0, 0)) ∧ (gc (atC c p)).length ≤ cur.size := by
    rcases g1.sl_cases (fun hb' => by rw [m5] at hb'; cases hb') with ⟨_, _, _, q4, _⟩ | ⟨g', cap', xs', q1, q2, q3, q4, q5, _, _, q8⟩
    · rw [m5] at q4; cases q4
    · rw [m5] at q1; cases q1
      rw [q2] at q3
      obtain ⟨y10, y11⟩ := q3
      rcases y11 with ⟨hv', _⟩ | ⟨g2, cap2, cur2, hv', _, hheap2, hn2, hm2, hs2, ht2⟩
      · cases hv'
      · cases hv'
        exact ⟨cur2, hheap2, by rw [q4, y10, hs2]; exact Nat.mul_le_mul_right _ hn2⟩
  have hfitc : k + ti.size ≤ cur.size := by omega
  have hrun := run_store_at (P := P) hT ht hheap hxs hfitc (xs_one h.heap hx (push_nu xs st st1 hp))
  have hcg := chg_setRow (w := w) g (cur.toList.take k ++ x.cells.toList ++ cur.toList.drop (k + ti.size)).toArray
  have hheap' : (w.setRow g (cur.toList.take k ++ x.cells.toList ++ cur.toList.drop (k + ti.size)).toArray).heap[g]? = some (.cells (cur.toList.take k ++ x.cells.toList ++ cur.toList.drop (k + ti.size)).toArray e (0, 0)) := setRow_heap w g cur _ e (0, 0) hheap
  refine ⟨_, hrun, ?_⟩
  generalize w.setRow g (cur.toList.take k ++ x.cells.toList ++ cur.toList.drop (k + ti.size)).toArray = w' at hcg hheap'
  have hgown : owns (dropN st1).r bx ph' t' (some o) g := own_blk hcd hgt
  have hS : ∀ b, S b → w'.heap[b]? = w.heap[b]? := fun b hb => hcg.block b (d1.heap.low.1 b hb) fun e => by subst e; exact (d1.heap.free _ _ _ hgown).1 hb
  have hqlt : ∀ b, b ∈ blksL qs → b < w.heap.size ∧ b ≠ g ∧ ¬ S b ∧ (∀ u κ, ¬ owns (dropN st1).r bx ph' u κ b) ∧ (w0.heap.size ≤ b ∨ F b) := fun b hb => by
    obtain ⟨k, hk⟩ := hqown b hb
    have hno : ∀ u κ, ¬ owns (dropN st1).r bx ph' u κ b := fun u κ ho => by
      obtain ⟨n1, n2⟩ := d5 u κ b ho
      exact n1 ((q.rel.heap.inj _ _ _ _ b n2 hk).1.trans q.len.symm)
    exact ⟨(q.rel.heap.free _ _ _ hk).2, fun e => by subst e; exact hno _ _ hgown, (q.rel.heap.free _ _ _ hk).1, hno, q.rel.mine _ _ _ hk⟩
  obtain ⟨rest, pb1, pb2⟩ := Pv.put_blks p m2
  obtain ⟨h0, hh0, hhm⟩ : ∃ h0 : Option (List Nat), (h0 = none ∨ ∃ i, i < ti.size ∧ h0 = some [k + i]) ∧ hh.map pathN = h0.map (pathN p ++ ·) := by
    cases hh with
    | none => exact ⟨none, .inl rfl, rfl⟩
    | some qq =>
      obtain ⟨i, i1, i2⟩ := fillObl_sound qq p k off ti.size obl hobl hok
      exact ⟨some [k + i], .inr ⟨i, i1, rfl⟩, by show some (pathN qq) = _; rw [i2]; rfl⟩
  rw [hhm] at t1
  have hndq : (qn.blks ++ rest).Nodup := pb1.nodup_iff.1 t2
  have hrl : rcs.length = ti.size := by rw [r1, hxt]
  have hkl : k + ti.size ≤ qn.kids.length := by
    rcases g1.sl_cases (fun hb' => by rw [m5] at hb'; cases hb') with ⟨_, _, _, q4, _⟩ | ⟨g', cap', xs', q1, q2, q3, q4, q5, _⟩
    · rw [m5] at q4; cases q4
    · omega
  have hqb : qn.blks = g :: blksL qn.kids := by obtain ⟨v0, b0, ks0⟩ := qn; cases (show b0 = some g from m5); rfl
  have hnew := CRepT.upd (w' := w') (q' := .mk qn.v (some g) (qn.kids.take k ++ qs ++ qn.kids.drop (k + ti.size))) (f := fun nd => .sl (gn nd) (setC (gc nd) k cs)) (h1 := none) p t1 m2 m3 t2 hS
    (fun b hb hb2 => hcg.block b (d1.heap.free _ _ _ (own_blk hcd hb)).2 fun e => hb2 (e ▸ hgb)) (fun u hu => by
      rw [k2] at hu ⊢
      refine node_write hu m5 m6 hxt (by omega) (by omega) hle hheap hheap' hS (fun b hb => ?_) hh0 (fun i a1 a2 a3 => ?_)
      · have hb2 : b ∈ qn.blks := by rw [hqb]; exact List.mem_cons_of_mem _ hb
        refine hcg.block b (d1.heap.free _ _ _ (own_blk hcd (Pv.get_blks p m2 b hb2))).2 fun e => ?_
        subst e
        have := (List.nodup_append.1 hndq).1
        rw [hqb] at this
        exact (List.nodup_cons.1 this).1 hb
      · have := s3 i a2 a3
        rw [hvals i a1] at this
        have hmod : (k + i) % szOf T e = (off + i) % szOf T e := by
          rw [m7, Nat.add_assoc, Nat.mul_comm, Nat.mul_add_mod]
        rw [hmod]
        exact this.frame hS (fun _ h => h) fun b hb => by
          have hb2 := mem_blksL.2 ⟨i, a2, hb⟩
          exact hcg.block b (hqlt b hb2).1 (hqlt b hb2).2.1)
  have hpb := pb2 (.mk qn.v (some g) (qn.kids.take k ++ qs ++ qn.kids.drop (k + ti.size)))
  have hq'b : (Pv.mk qn.v (some g) (qn.kids.take k ++ qs ++ qn.kids.drop (k + ti.size))).blks = g :: (blksL (qn.kids.take k) ++ blksL qs ++ blksL (qn.kids.drop (k + ti.size))) := by
    show [g] ++ blksL _ = _
    rw [blksL_append, blksL_append]; rfl
  have hkids : blksL qn.kids = blksL (qn.kids.take k) ++ (blksL ((qn.kids.drop k).take ti.size) ++ blksL (qn.kids.drop (k + ti.size))) := by
    rw [← blksL_append, ← blksL_append]
    congr 1
    rw [← List.drop_drop, List.take_append_drop, List.take_append_drop]
  have hsub : ∀ b, b ∈ blksL (qn.kids.take k) ∨ b ∈ blksL (qn.kids.drop (k + ti.size)) → b ∈ blksL qn.kids := fun b hb => by
    rw [hkids, List.mem_append, List.mem_append]
    rcases hb with hb | hb
    · exact .inl hb
    · exact .inr (.inr hb)
  have hdis : ∀ b, b ∈ blksL qs → b ∉ (ph' t' o).blks := fun b hb hb2 => (hqlt b hb).2.2.2.1 _ _ (own_blk hcd hb2)
  have hin : ∀ b, b ∈ qn.blks ++ rest → b ∈ (ph' t' o).blks := fun b hb => pb1.mem_iff.2 hb
  have hnd' : ((ph' t' o).put p (.mk qn.v (some g) (qn.kids.take k ++ qs ++ qn.kids.drop (k + ti.size)))).blks.Nodup := by
    rw [hpb.nodup_iff, hq'b]
    obtain ⟨n1, n2, n3⟩ := List.nodup_append.1 hndq
    rw [hqb] at n1
    obtain ⟨n4, n5⟩ := List.nodup_cons.1 n1
    rw [hkids] at n5
    obtain ⟨n6, n7, n8⟩ := List.nodup_append.1 n5
    obtain ⟨n9, n10, n11⟩ := List.nodup_append.1 n7
    refine List.nodup_append.2 ⟨List.nodup_cons.2 ⟨fun hg => ?_, List.nodup_append.2 ⟨List.nodup_append.2 ⟨n6, s5, fun b hb b' hb' e => ?_⟩, n10, fun b hb b' hb' e => ?_⟩⟩, n2, fun b hb b' hb' e => ?_⟩
    · rw [List.mem_append, List.mem_append] at hg
      rcases hg with (hg | hg) | hg
      · exact n4 (hsub g (.inl hg))
      · exact (hqlt g hg).2.1 rfl
      · exact n4 (hsub g (.inr hg))
    · subst e
      exact hdis b hb' (hin b (List.mem_append.2 (.inl (by rw [hqb]; exact List.mem_cons_of_mem _ (hsub b (.inl hb))))))
    · subst e
      rcases List.mem_append.1 hb with hb | hb
      · exact n8 b hb b (List.mem_append.2 (.inr hb')) rfl
      · exact hdis b hb (hin b (List.mem_append.2 (.inl (by rw [hqb]; exact List.mem_cons_of_mem _ (hsub b (.inr hb'))))))
    · subst e
      rcases List.mem_cons.1 hb with rfl | hb
      · exact n3 b hgb b hb' rfl
      · rw [List.mem_append, List.mem_append] at hb
        rcases hb with (hb | hb) | hb
        · exact n3 b (by rw [hqb]; exact List.mem_cons_of_mem _ (hsub b (.inl hb))) b hb' rfl
        · exact hdis b hb (hin b (List.mem_append.2 (.inr hb')))
        · exact n3 b (by rw [hqb]; exact List.mem_cons_of_mem _ (hsub b (.inr hb))) b hb' rfl
  have hvput : ((ph' t' o).put p (.mk qn.v (some g) (qn.kids.take k ++ qs ++ qn.kids.drop (k + ti.size)))).v = (ph' t' o).v := by
    cases p with
    | nil => rw [Pv.get_nil] at m2; cases m2; rw [Pv.put_nil]; rfl
    | cons y p => exact Pv.put_v (by simp)
  have hrep' : RCRep T w' S ((ph' t' o).put p (.mk qn.v (some g) (qn.kids.take k ++ qs ++ qn.kids.drop (k + ti.size)))) (.tree sh (updC (fun nd => .sl (gn nd) (setC (gc nd) k cs)) c p) none) := by
    refine ⟨?_, hnd', t3, fun p hp => by cases hp⟩
    rw [hvput]
    exact hnew
  obtain ⟨z1, z2⟩ := tree_turn d1 (W := fun b => b = g) (w' := w') hcd hcg (fun b hb => by subst hb; exact hgt) hvput hrep' (fun b hb => by
    rw [hpb.mem_iff, hq'b, List.mem_append, List.mem_cons, List.mem_append, List.mem_append] at hb
    rcases hb with (rfl | (hb | hb) | hb) | hb
    · exact .inl hgt
    · exact .inl (hin b (List.mem_append.2 (.inl (by rw [hqb]; exact List.mem_cons_of_mem _ (hsub b (.inl hb))))))
    · obtain ⟨y1, y2, y3, y4, y5⟩ := hqlt b hb
      exact .inr ⟨y3, Nat.lt_of_lt_of_le y1 hcg.size, y4, y5⟩
    · exact .inl (hin b (List.mem_append.2 (.inl (by rw [hqb]; exact List.mem_cons_of_mem _ (hsub b (.inr hb))))))
    · exact .inl (hin b (List.mem_append.2 (.inr hb)))) (ofKid t' o (p.length + 1)) (fun y v hk hoc hy => by
      exact view_stays hcd m2 (m := p.length + 1) (fun p' hp' => by
        by_cases e1 : p'.length < p.length
        · exact .inl e1
        · exact .inr ⟨by omega, rfl, m5.symm⟩) hy hoc hk)
  refine ⟨S, bx, _, z1, ?_⟩
  show (setCellR (dropN st1).r t' o _).getD (kill _ (dropN st1).s).length .none = .none
  have hl : (kill (ofKid t' o (p.length + 1)) (dropN st1).s).length = (dropN st1).s.length := by simp [kill]
  rw [hl, getD_setCell, if_neg (by rw [d3, q.len]; exact hne)]
  exact d2
end Go.Proofs.Ytcpcghnpoekhpaa.A
/- The ghost machine: append to what stands in a tree, and to a tree. -/
set_option linter.unusedSimpArgs false
set_option linter.unusedVariables false
set_option maxRecDepth 100000
set_option maxHeartbeats 4000000
namespace Go.Proofs.Ytcpcghnpoekhpaa.A
open Go Go.RowKit
variable {P : Program} {T : TT} {w w' w0 : World} {S S0 : Nat → Prop} {F : Fr} {bx : Nat → Nat} {ph : Nat → Nat → Pv} {a : Act} {st st' : St}
theorem crept_one {hp : Option (List Nat)} {sh : Sh} {v : Value} {q : Pv} {c : C} (h : CRepT T w S hp sh v q c) : hp = none → v.oneCell' = true := by
 intro hn
 subst hn
 cases h with
 | st h => exact crep_one h
 | nil _ => rfl
 | node => rfl
theorem tree_row {e : TypeId} {ks : List Sh} {v : Value} {q : Pv} {c : C} (h : CRepT T w S none (.sl e ks) v q c) : v = q.v ∧ ∃ xs : List Value, w.ownsRow 0 e (szOf T e) v (gn c) xs ∧ (gc c).length = xs.length ∧ q.kids.length = xs.length ∧
  (∀ g, v.ownBlock = some g → g ∈ q.blks ∧ (q.blks.Nodup → g ∉ blksL q.kids)) ∧ (∀ b, b ∈ blksL q.kids → b ∈ q.blks) ∧ (q.blks.Nodup → (blksL q.kids).Nodup) ∧
  ∀ k (h1 : k < xs.length) (h2 : k < q.kids.length) (h3 : k < (gc c).length), CRepT T w S none (ks.getD (k % szOf T e) .st) xs[k] q.kids[k] (gc c)[k] := by
 have hv := h.val
 refine ⟨hv, ?_⟩
 have hbn : q.b = none → q.v = nilSl := fun hb => by
  rcases h.bval hb with h1 | h1
  ·exact h1
  ·cases h1
 obtain ⟨v0, b0, k0⟩ := q
 rcases h.sl_cases hbn with ⟨h1, h2, h3, h4, h5⟩ | ⟨g, cap, xs, h1, h2, h3, h4, h5, h6, _, h8⟩
 ·have h1' : v0 = nilSl := h1
  have h5' : k0 = [] := h5
  subst h5'
  rw [hv, h2, h3]
  show ∃ xs : List Value, w.ownsRow 0 e (szOf T e) v0 0 xs ∧ _
  rw [h1']
  exact ⟨[], World.ownsRow_nil _ _ _ _, rfl, rfl, fun g hg => (by cases hg), fun b hb => (by cases hb), fun _ => (by show ([] : List Nat).Nodup; simp), fun k hk => absurd hk (by simp)⟩
 ·have h1' : b0 = some g := h1
  subst h1'
  have h2' : v0 = .slice (some ⟨g, 0, none⟩) (gn c) cap := h2
  rw [hv]
  refine ⟨xs, h3, h4, h5, fun g' hg => ?_, fun b hb => mem_node.2 (.inr hb), fun hnd => ?_, h8⟩
  ·have hg' : v0.ownBlock = some g' := hg
   rw [h2'] at hg'
   cases hg'
   refine ⟨mem_node.2 (.inl rfl), fun hnd => ?_⟩
   have : ([g] ++ blksL k0).Nodup := hnd
   exact (List.nodup_cons.1 this).1
  ·have : ([g] ++ blksL k0).Nodup := hnd
   exact (List.nodup_cons.1 this).2
theorem treeBase_sound (h : Rel T w0 S0 F st a w S bx ph) (hsp : st.r.getD st.s.length .none = .none) {t o : Nat} {p : Path} {v : Value} {sh : Sh} {c : C} {e : TypeId} {ks : List Sh} {n : Nat} {cells : List C} {st1 : St}
    (hv : XRep T w S st.r bx ph v (.tv t o p)) (hp : treeBase (std P T) st t o p = some (sh, c, e, ks, n, cells, st1)) :
    t ≠ st.s.length ∧ (st.r.getD t .none).row[o]? = some (.tree sh c none) ∧ ∃ q ph1, CRepT T w S none (.sl e ks) v q (atC c p) ∧ n = gn (atC c p) ∧ cells = gc (atC c p) ∧ q.blks.Nodup ∧ (∀ b, b ∈ q.blks → owns st.r bx ph t (some o) b) ∧
      Rel T w0 S0 F st1 a w S bx ph1 ∧ st1.s.length = st.s.length ∧ st1.r.getD st.s.length .none = .none ∧ (∀ u κ b, owns st1.r bx ph1 u κ b → owns st.r bx ph u κ b ∧ b ∉ q.blks) ∧
      (∀ u o', ¬ (u = t ∧ o' = o) → (st1.r.getD u .none).row[o']? = (st.r.getD u .none).row[o']? ∧ ph1 u o' = ph u o') := by
  unfold treeBase at hp
  split at hp
  · rename_i sh0 c0 htree
    split at hp
    · cases hp
    · rename_i hne
      split at hp
      · rename_i e0 ks0 hto
        simp only [Option.some.injEq, Prod.mk.injEq] at hp
        obtain ⟨rfl, rfl, rfl, rfl, rfl, rfl, rfl⟩ := hp
        have hc := treeAt_eq htree
        obtain ⟨sh', c', hh', q, m1, m2, m3, m4, m5, rfl⟩ := hv
        rw [hc] at m1; cases m1
        obtain ⟨t1, t2, t3, t4⟩ := h.heap.cell hc
        obtain ⟨hp', u, g1, g2, g3⟩ := CRepT.get p t1 m2 m3
        have := g2 rfl
        subst this
        rw [hto] at g1
        have hu := g1.val
        rw [hu] at g1
        have hqb : ∀ b, b ∈ q.blks → owns st.r bx ph t (some o) b := fun b hb => own_blk hc (Pv.get_blks p m2 b hb)
        obtain ⟨rest, pb1, pb2⟩ := Pv.put_blks p m2
        have hndq : (q.blks ++ rest).Nodup := pb1.nodup_iff.1 t2
        refine ⟨hne, hc, q, ?_⟩
        rw [lenJ_std, clsJ_std, atJ_std]
        cases p with
        | nil =>
          refine ⟨ph, g1, rfl, rfl, (List.nodup_append.1 hndq).1, hqb, dead_sound h t o, by simp [kill], ?_, fun u κ b hb => ?_, fun u o' hne' => ⟨?_, rfl⟩⟩
          · rw [getD_setCell, if_neg hne]; exact hsp
          · obtain ⟨h1, h2⟩ := owns_dead hb
            refine ⟨h1, fun hb2 => h2 (h.heap.inj _ _ _ _ b h1 (hqb b hb2))⟩
          · show ((setCellR st.r t o .dead).getD u .none).row[o']? = _
            rw [row_setCell]
            split
            · rename_i e1; subst e1
              rw [List.getElem?_set, if_neg (fun e => hne' ⟨rfl, e.symm⟩)]
            · rfl
        | cons x p =>
          have hnew := CRepT.upd (w' := w) (q' := .mk q.v none []) (f := fun _ => holeC) (h0 := none) (h1 := some []) (x :: p) t1 m2 m3 t2 (fun _ _ => rfl) (fun _ _ _ => rfl) (fun u hu => by
            rw [hto] at hu
            rw [hu.val]
            exact .hole)
          have hpb := pb2 (.mk q.v none [])
          have hpb' : ((ph t o).put (x :: p) (.mk q.v none [])).blks.Perm rest := by simpa [Pv.blks, blksL] using hpb
          have hvput : ((ph t o).put (x :: p) (.mk q.v none [])).v = (ph t o).v := Pv.put_v (by simp)
          have hrep' : RCRep T w S ((ph t o).put (x :: p) (.mk q.v none [])) (.tree sh0 (updC (fun _ => holeC) c0 (x :: p)) (some (x :: p))) := by
            refine ⟨?_, hpb'.nodup_iff.2 (List.nodup_append.1 hndq).2.1, t3, fun p' hp' => ?_⟩
            · rw [hvput]
              have e1 : (some (x :: p)).map pathN = (some []).map (pathN (x :: p) ++ ·) := by simp
              rw [e1]; exact hnew
            · cases hp'; exact ⟨by simp, m3⟩
          obtain ⟨z1, z2⟩ := tree_turn h (W := fun _ => False) (w' := w) hc (Chg.refl _ w) (fun _ hf => hf.elim) hvput hrep' (fun b hb => .inl (pb1.mem_iff.2 (List.mem_append.2 (.inr (hpb'.mem_iff.1 hb))))) (ofKid t o (x :: p).length) (fun y v hk hoc hy =>
            view_stays hc m2 (m := (x :: p).length) (fun p' hp' => .inl hp') hy hoc hk)
          have hl : (kill (ofKid t o (x :: p).length) st.s).length = st.s.length := by simp [kill]
          rw [show updJ (std P T) (fun _ => holeC) c0 (x :: p) = updC (fun _ => holeC) c0 (x :: p) from updJ_std _ _ _]
          refine ⟨_, g1, rfl, rfl, (List.nodup_append.1 hndq).1, hqb, z1, hl, ?_, fun u κ b hb => ?_, fun u o' hne' => ⟨?_, if_neg hne'⟩⟩
          · show (setCellR st.r t o _).getD st.s.length .none = .none
            rw [getD_setCell, if_neg hne]; exact hsp
          · rcases z2 u κ b hb with ⟨rfl, rfl, h1⟩ | ⟨h1, h2⟩
            · have hr := hpb'.mem_iff.1 h1
              exact ⟨own_blk hc (pb1.mem_iff.2 (List.mem_append.2 (.inr hr))), fun hq => (List.nodup_append.1 hndq).2.2 b hq b hr rfl⟩
            · exact ⟨h1, fun hq => h2 (h.heap.inj _ _ _ _ b h1 (hqb b hq))⟩
          · show ((setCellR st.r t o _).getD u .none).row[o']? = _
            rw [row_setCell]
            split
            · rename_i e1; subst e1
              rw [List.getElem?_set, if_neg (fun e => hne' ⟨rfl, e.symm⟩)]
            · rfl
      · cases hp
  · cases hp
theorem app_run (hT : TOk P T) {t ty e : TypeId} {te : TI} (hd : P.underlying t = some (.slice e)) (hte : T e = some te) (hz : te.size ≠ 0) (hby : te.bytes ≠ 0) {v u : Value} {n m : Nat} {xs news : List Value}
  (b1 : w.ownsRow 0 e (szOf T e) v n xs) (n1 : news.length = m * szOf T e) (hone : ∀ x ∈ news, x.oneCell' = true) (n4 : (m = 0 ∧ ∃ aa c, u = .slice aa 0 c) ∨ Src w u m news) (hbytes : (n + m) * te.bytes ≤ 140737488355328) :
  ∃ z w', (Builtin.append_ #[t, t] ty #[v, u]).run P w = .ok z w' ∧ w'.ownsRow 0 e (szOf T e) z (n + m) (xs ++ news) ∧ w.grownBy w' v.ownBlock ∧ (z.ownBlock = v.ownBlock ∨ z.ownBlock = some w.heap.size) := by
 obtain ⟨_, ie, hie, his, hib, hiz, hzc⟩ := hT e te hte
 have hsz : szOf T e = te.size := by simp [szOf, hte]
 have hs1 : te.zero.cells.size = szOf T e := by rw [hzc, hsz]
 have hmax : n + m ≤ maxLen := by
  have : n + m ≤ (n + m) * te.bytes := Nat.le_mul_of_pos_right _ (by omega)
  unfold maxLen; omega
 rcases n4 with ⟨rfl, aa, c, rfl⟩ | hsrc
 ·have : news = [] := List.eq_nil_of_length_eq_zero (by rw [n1]; simp)
  subst this
  exact ⟨v, w, run_append_empty hT hd hte b1 aa c, by simpa using b1, World.grownBy.refl _ _, .inl rfl⟩
 ·obtain ⟨z, w', r1, r2, _, r3, r4, _⟩ := run_append_src (P := P) w t ty 0 e ie te.zero (szOf T e) te.bytes hd hie hiz (by rw [his, hsz]) hib hs1 (by omega) v n xs b1 u m news n1 hsrc hone hmax hbytes (Nat.zero_le _)
  exact ⟨z, w', r1, r2, r3, r4⟩
theorem kidApp_sound (hT : TOk P T) (h : Rel T w0 S0 F st a w S bx ph) (hsp : st.r.getD st.s.length .none = .none) {t ty e e1 : TypeId} {te : TI} {U : V} {u v : Value} {t1 o1 : Nat} {p1 : Path} {sh : Sh} {c : C} {ks : List Sh} {n m : Nat} {cells cs : List C} {st1 : St} {obl : List Prop}
    (hd : P.underlying t = some (.slice e)) (hte : T e = some te) (hz : te.size ≠ 0) (hby : te.bytes ≠ 0) (hv : XRep T w S st.r bx ph v (.tv t1 o1 p1)) (hu : VRep T w S st.r bx ph u U) (hb : treeBase (std P T) st t1 o1 p1 = some (sh, c, e, ks, n, cells, st1))
    (hn : appNews (std P T) st e te.size none U = some (m, cs, obl)) (ho : ∀ p ∈ obl, p) (hst : allSt ks = true) (hbytes : (n + m) * te.bytes ≤ 140737488355328) {dst : Option Nat} (hdst : ∀ k, dst = some k → k < st.s.length) :
    ∃ z w', (Builtin.append_ #[t, t] ty #[v, u]).run P w = .ok z w' ∧ Rels T w0 S0 F (fin { st1 with r := pushR st1.r st.s.length (.own e (n + m) (cells ++ cs)) } dst (fun d => .one (.view d 0))) (a.put dst z) w' := by
  have hsz : szOf T e = te.size := by simp [szOf, hte]
  obtain ⟨hne, hc, q, ph1, a1, rfl, rfl, a4, a5, a6, a7, a8, a9, _⟩ := treeBase_sound h hsp hv hb
  obtain ⟨hvv, xs, b1, b2, b3, b4, _, _, b7⟩ := tree_row a1
  rw [← hsz] at hn
  obtain ⟨news, n1, n2, n3, n4⟩ := news_sound h.heap hu hn ho (by rw [hsz]; exact hz)
  obtain ⟨z, w', r1, r2, r3, r4⟩ := app_run hT hd hte hz hby b1 n1 (fun x hx => by
    obtain ⟨k, hk, rfl⟩ := List.mem_iff_getElem.1 hx
    exact crep_one (n3 k (by omega) hk)) n4 hbytes (ty := ty)
  refine ⟨z, w', r1, ?_⟩
  have hcg : Chg (fun b => v.ownBlock = some b) w w' := Chg.of_grown r3
  have hvS : ∀ g, v.ownBlock = some g → ¬ S g ∧ (∀ u κ, ¬ owns st1.r bx ph1 u κ g) ∧ (w0.heap.size ≤ g ∨ F g) := fun g hg => by
    have hgq := (b4 g hg).1
    exact ⟨(h.heap.free _ _ g (a5 g hgq)).1, fun u κ ho => (a9 u κ g ho).2 hgq, h.mine _ _ g (a5 g hgq)⟩
  have hstab : ∀ {x : Value} {c : C}, CRep w S x c → CRep w' S x c := fun hx => hx.frame (fun g hg => r3.block g (h.heap.low.1 g hg) (fun hh => (hvS g hh.symm).1 hg)) fun _ h => h
  have hrc : RCRep T w' S (.of z) (.own e (gn (atC c p1) + m) (gc (atC c p1) ++ cs)) := by
    refine ⟨xs ++ news, r2, by rw [List.length_append, List.length_append]; omega, fun k q1 q2 => ?_⟩
    by_cases hk : k < xs.length
    · have hkc : k < (gc (atC c p1)).length := by omega
      have e1 : (gc (atC c p1) ++ cs)[k]'q1 = (gc (atC c p1))[k] := List.getElem_append_left hkc
      rw [List.getElem_append_left hk, e1]
      have := b7 k hk (by omega) hkc
      rw [allSt_get hst] at this
      generalize xs[k] = xx at this ⊢
      generalize (gc (atC c p1))[k] = cc at this ⊢
      generalize q.kids[k] = qq at this
      cases this with
      | st hh => exact hstab hh
    · have hk2 : k - (gc (atC c p1)).length < cs.length := by rw [List.length_append] at q1; omega
      have e1 : (gc (atC c p1) ++ cs)[k]'q1 = cs[k - (gc (atC c p1)).length] := List.getElem_append_right (by omega)
      rw [List.getElem_append_right (by omega), e1]
      have := n3 (k - (gc (atC c p1)).length) hk2 (by omega)
      simp only [← b2]
      exact hstab this
  have := rc_fin a6 (by rw [a7]; exact a8) (w' := w') (W := fun b => v.ownBlock = some b) hcg (fun b _ hb => hvS b hb) hrc (fun g hg => by
    have hg' : z.ownBlock = some g := hg
    refine ⟨(r2.lt g hg').2, ?_⟩
    rcases r4 with r4 | r4
    · exact .inr (r4 ▸ hg')
    · rw [hg'] at r4; cases r4; exact .inl (Nat.le_refl _)) (dst := dst) (fun k hk => by rw [a7]; exact hdst k hk)
  rw [a7] at this
  exact this
theorem treeApp_core (hT : TOk P T) {ph1 : Nat → Nat → Pv} (h : Rel T w0 S0 F st a w S bx ph1) (hsp : st.r.getD st.s.length .none = .none) {t ty e : TypeId} {te : TI} {u v : Value} {ks : List Sh} {n m : Nat} {cells cs : List C} {xs news : List Value} {kb kn : List Pv} {W : Nat → Prop}
    (hd : P.underlying t = some (.slice e)) (hte : T e = some te) (hz : te.size ≠ 0) (hby : te.bytes ≠ 0) (hbytes : (n + m) * te.bytes ≤ 140737488355328)
    (b1 : w.ownsRow 0 e (szOf T e) v n xs) (b2 : cells.length = xs.length) (b3 : kb.length = xs.length) (b4 : ∀ k (h1 : k < xs.length) (h2 : k < kb.length) (h3 : k < cells.length), CRepT T w S none (ks.getD (k % szOf T e) .st) xs[k] kb[k] cells[k])
    (n1 : w.ownsRow 0 e (szOf T e) u m news) (n2 : cs.length = news.length) (n3 : kn.length = news.length) (n4 : ∀ k (h1 : k < news.length) (h2 : k < kn.length) (h3 : k < cs.length), CRepT T w S none (ks.getD (k % szOf T e) .st) news[k] kn[k] cs[k])
    (hW : ∀ b, W b → ¬ S b ∧ b < w.heap.size ∧ (∀ t κ, ¬ owns st.r bx ph1 t κ b) ∧ (w0.heap.size ≤ b ∨ F b)) (hWv : ∀ g, v.ownBlock = some g → W g ∧ g ∉ blksL kb ∧ g ∉ blksL kn) (hWk : ∀ b, b ∈ blksL kb ∨ b ∈ blksL kn → W b) (hnd : (blksL kb ++ blksL kn).Nodup)
    {dst : Option Nat} (hdst : ∀ k, dst = some k → k < st.s.length) :
    ∃ z w', (Builtin.append_ #[t, t] ty #[v, u]).run P w = .ok z w' ∧ Rels T w0 S0 F (fin { st with r := pushR st.r st.s.length (.tree (.sl e ks) (.sl (n + m) (cells ++ cs)) none) } dst (fun d => .one (.tv d 0 []))) (a.put dst z) w' ∧ (v = nilSl → Old w w') := by
  have hsz : szOf T e = te.size := by simp [szOf, hte]
  obtain ⟨z, w', r1, r2, r3, r4⟩ := app_run hT hd hte hz hby b1 n1.1 (fun x hx => by
    obtain ⟨k, hk, rfl⟩ := List.mem_iff_getElem.1 hx
    exact crept_one (n4 k hk (by omega) (by omega)) rfl) (.inr (Src.of_owns n1)) hbytes (ty := ty)
  have hcg0 : Chg (fun b => v.ownBlock = some b) w w' := Chg.of_grown r3
  have hcg : Chg W w w' := hcg0.mono fun b _ hb => (hWv b hb).1
  refine ⟨z, w', r1, ?_, fun hv g hg => hcg0.block g hg fun hh => by rw [hv] at hh; cases hh⟩
  have hS : ∀ b, S b → w'.heap[b]? = w.heap[b]? := fun b hb => hcg0.block b (h.heap.low.1 b hb) fun hh => (hW b (hWv b hh).1).1 hb
  have hK : ∀ b, b ∈ blksL kb ∨ b ∈ blksL kn → w'.heap[b]? = w.heap[b]? := fun b hb => hcg0.block b (hW b (hWk b hb)).2.1 fun hh => by
    rcases hb with hb | hb
    · exact (hWv b hh).2.1 hb
    · exact (hWv b hh).2.2 hb
  have hmn : n * szOf T e = xs.length := b1.1.symm
  have hkids : ∀ k (h1 : k < (xs ++ news).length) (h2 : k < (kb ++ kn).length) (h3 : k < (cells ++ cs).length), CRepT T w' S none (ks.getD (k % szOf T e) .st) (xs ++ news)[k] (kb ++ kn)[k] (cells ++ cs)[k] := fun k h1 h2 h3 => by
    by_cases hk : k < xs.length
    · rw [List.getElem_append_left hk, List.getElem_append_left (show k < kb.length by omega), List.getElem_append_left (show k < cells.length by omega)]
      exact (b4 k hk (by omega) (by omega)).frame hS (fun _ h => h) fun b hb => hK b (.inl (mem_blksL.2 ⟨k, by omega, hb⟩))
    · have h1' : k < xs.length + news.length := by simpa using h1
      have hk2 : k - xs.length < news.length := by omega
      rw [List.getElem_append_right (show xs.length ≤ k by omega), List.getElem_append_right (show kb.length ≤ k by omega), List.getElem_append_right (show cells.length ≤ k by omega)]
      simp only [b2, b3]
      have := n4 (k - xs.length) hk2 (by omega) (by omega)
      have hmod : (k - xs.length) % szOf T e = k % szOf T e := by
        rw [← hmn]
        have e1 : k = (k - n * szOf T e) + szOf T e * n := by rw [Nat.mul_comm (szOf T e) n]; omega
        conv => rhs; rw [e1, Nat.add_mul_mod_self_left]
      rw [hmod] at this
      exact this.frame hS (fun _ h => h) fun b hb => hK b (.inr (mem_blksL.2 ⟨k - xs.length, by omega, hb⟩))
  have hbl : ∀ b, b ∈ blksL (kb ++ kn) → b ∈ blksL kb ∨ b ∈ blksL kn := fun b hb => by rw [blksL_append] at hb; exact List.mem_append.1 hb
  obtain ⟨pv, p1, p2, p3⟩ : ∃ pv : Pv, pv.v = z ∧ RCRep T w' S pv (.tree (.sl e ks) (.sl (n + m) (cells ++ cs)) none) ∧ ∀ b, b ∈ pv.blks → z.ownBlock = some b ∨ b ∈ blksL kb ∨ b ∈ blksL kn := by
    rcases r2.2 with ⟨hz1, hz2⟩ | ⟨g, cap, cur, hz1, _⟩
    · subst hz1
      have hl := r2.1
      rw [hz2, Nat.zero_mul] at hl
      have hcl : cells ++ cs = [] := List.eq_nil_of_length_eq_zero (by rw [List.length_append, b2, n2, ← List.length_append]; exact hl)
      rw [hz2, hcl]
      exact ⟨.mk nilSl none [], rfl, ⟨.nil (.inr rfl), by simp [Pv.blks, blksL], ⟨_, _, rfl⟩, fun p hp => by cases hp⟩, fun b hb => by simp [Pv.blks, blksL] at hb⟩
    · subst hz1
      refine ⟨_, rfl, node_of r2 (by rw [List.length_append, List.length_append]; omega) (by rw [List.length_append, List.length_append]; omega) hkids (fun hg => ?_) (by rw [blksL_append]; exact hnd), fun b hb => ?_⟩
      · have hg2 := hbl g hg
        rcases r4 with r4 | r4
        · have := hWv g (by rw [← r4]; rfl)
          rcases hg2 with hg2 | hg2
          · exact this.2.1 hg2
          · exact this.2.2 hg2
        · have : g = w.heap.size := by simpa [Value.ownBlock] using r4
          have := (hW g (hWk g hg2)).2.1
          omega
      · rcases mem_node.1 hb with rfl | hb
        · exact .inl rfl
        · exact .inr (hbl b hb)
  have := rc_fin h hsp (w' := w') (W := W) (pv := pv) hcg (fun b _ hb => ⟨(hW b hb).1, (hW b hb).2.2.1, (hW b hb).2.2.2⟩) p2 (fun g hg => by
    rcases p3 g hg with hg | hg
    · refine ⟨(r2.lt g hg).2, ?_⟩
      rcases r4 with r4 | r4
      · exact .inr (hWv g (r4 ▸ hg)).1
      · rw [hg] at r4; cases r4; exact .inl (Nat.le_refl _)
    · exact ⟨Nat.lt_of_lt_of_le (hW g (hWk g hg)).2.1 hcg.size, .inr (hWk g hg)⟩) hdst
  rw [p1] at this
  exact this
theorem treeApp_sound (hT : TOk P T) (h : Rel T w0 S0 F st a w S bx ph) (hsp : st.r.getD st.s.length .none = .none) {t ty : TypeId} {U V : V} {u v : Value} {vf : Nat → A.V} {st1 : St} {obl : List Prop}
    (hv : VRep T w S st.r bx ph v V) (hu : VRep T w S st.r bx ph u U) (hp : treeApp T (std P T) st t V U = some (vf, st1, obl)) (ho : ∀ p ∈ obl, p) {dst : Option Nat} (hdst : ∀ k, dst = some k → k < st.s.length) :
    ∃ z w', (Builtin.append_ #[t, t] ty #[v, u]).run P w = .ok z w' ∧ Rels T w0 S0 F (fin st1 dst vf) (a.put dst z) w' ∧ ((∃ c, V = .one (.c c)) → Old w w') := by
  unfold treeApp at hp
  split at hp
  · rename_i e te hel
    obtain ⟨hd, hte, hsz⟩ := elemOf_desc hT hel
    split at hp
    · cases hp
    · rename_i hnz
      have hz : te.size ≠ 0 := fun h => hnz (.inl h)
      have hby : te.bytes ≠ 0 := fun h => hnz (.inr h)
      split at hp
      · split at hp
        · rename_i t1 o1 x1 p1
          split at hp
          · rename_i sh c e1 ks1 n cells st2 m cs obl2 hb hn
            split at hp
            · rename_i hc
              obtain ⟨rfl, hst⟩ := hc
              cases hp
              have hbytes : (n + m) * te.bytes ≤ 140737488355328 := by
                have : plus (std P T) n m * te.bytes ≤ 140737488355328 := ho _ (List.mem_cons_self ..)
                rwa [plus_std] at this
              obtain ⟨z, w', r1, r2⟩ := kidApp_sound (ty := ty) (e1 := e) hT h hsp hd hte hz hby hv hu hb hn (fun p hp => ho p (List.mem_cons_of_mem _ hp)) hst hbytes hdst
              refine ⟨z, w', r1, ?_, fun ⟨c, hc⟩ => by cases hc⟩
              rw [plus_std]
              exact r2
            · cases hp
          · cases hp
        · cases hp
      · split at hp
        · rename_i t2 o2
          split at hp
          · rename_i e2 ks2 m cs htree
            split at hp
            · rename_i hc
              obtain ⟨rfl, hks, hne2⟩ := hc
              have hks' := sameL_eq _ _ hks
              subst hks'
              have hc2 := treeAt_eq htree
              obtain ⟨sh', c', hh', q', m1, m2, _, _, _, rfl⟩ := hu
              rw [hc2] at m1; cases m1
              rw [Pv.get_nil] at m2; cases m2
              obtain ⟨t1', t2', _, _⟩ := h.heap.cell hc2
              obtain ⟨_, news, n1, n2, n3, n5, n6, n7, n8⟩ := tree_row t1'
              have hnown : ∀ b, b ∈ (ph t2 o2).blks → owns st.r bx ph t2 (some o2) b := fun b hb => own_blk hc2 hb
              split at hp
              · -- behind nil
                cases hp
                have hbytes : (0 + m) * te.bytes ≤ 140737488355328 := by
                  rw [Nat.zero_add]; exact ho _ (List.mem_cons_self ..)
                have hl : (kill (ofCell t2 o2) st.s).length = st.s.length := by simp [kill]
                obtain ⟨z, w', r1, r2, r3⟩ := treeApp_core (ty := ty) (ph1 := ph) (cells := []) (xs := []) (kb := []) (W := fun b => b ∈ (ph t2 o2).blks) hT (dead_sound h t2 o2) (by
                    show (setCellR st.r t2 o2 .dead).getD (kill (ofCell t2 o2) st.s).length .none = .none
                    rw [hl, getD_setCell, if_neg hne2]; exact hsp) hd hte hz hby hbytes (World.ownsRow_nil _ _ _ _) rfl rfl (fun k h1 => absurd h1 (by simp)) n1 n2 n3 n8
                  (fun b hb => ⟨(h.heap.free _ _ _ (hnown b hb)).1, (h.heap.free _ _ _ (hnown b hb)).2, fun u κ ho' => by
                    obtain ⟨h1, h2⟩ := owns_dead ho'
                    exact h2 (h.heap.inj _ _ _ _ b h1 (hnown b hb)), h.mine _ _ _ (hnown b hb)⟩)
                  (fun g hg => by cases hg) (fun b hb => by
                    rcases hb with hb | hb
                    · cases hb
                    · exact n6 b hb) (by simpa [blksL] using n7 t2') (dst := dst) (fun k hk => by show k < (kill (ofCell t2 o2) st.s).length; rw [hl]; exact hdst k hk)
                have hv' := crep_nil hv
                subst hv'
                refine ⟨z, w', r1, ?_, fun _ => r3 rfl⟩
                simp only [Nat.zero_add, List.nil_append, gn, gc] at r2
                rw [hl] at r2
                exact r2
              · rename_i t1 o1 p1
                split at hp
                · cases hp
                · rename_i hdiff
                  split at hp
                  · rename_i sh c e1 ks1 n cells st2 hb
                    split at hp
                    · rename_i hc
                      obtain ⟨rfl, hks1⟩ := hc
                      have hks1' := sameL_eq _ _ hks1
                      subst hks1'
                      cases hp
                      obtain ⟨hne, hc1, q, ph1, a1, rfl, rfl, a4, a5, a6, a7, a8, a9, a10⟩ := treeBase_sound h hsp hv hb
                      obtain ⟨hvv, xs, b1, b2, b3, b4, b5, b6, b7⟩ := tree_row a1
                      have hbytes : (gn (atC c p1) + m) * te.bytes ≤ 140737488355328 := by
                        have : plus (std P T) (gn (atC c p1)) m * te.bytes ≤ 140737488355328 := ho _ (List.mem_cons_self ..)
                        rwa [plus_std] at this
                      have hl : (kill (ofCell t2 o2) st2.s).length = st2.s.length := by simp [kill]
                      have hcross : ∀ b, b ∈ q.blks → b ∈ (ph t2 o2).blks → False := fun b h1 h2 => by
                        obtain ⟨e1, e2⟩ := h.heap.inj _ _ _ _ b (a5 b h1) (hnown b h2)
                        exact hdiff ⟨e1, by simpa using e2⟩
                      obtain ⟨z, w', r1, r2, r3⟩ := treeApp_core (ty := ty) (ph1 := ph1) (W := fun b => b ∈ q.blks ∨ b ∈ (ph t2 o2).blks) hT (dead_sound a6 t2 o2) (by
                          show (setCellR st2.r t2 o2 .dead).getD (kill (ofCell t2 o2) st2.s).length .none = .none
                          rw [hl, a7, getD_setCell, if_neg hne2]; exact a8) hd hte hz hby hbytes b1 b2 b3 b7 n1 n2 n3 n8
                        (fun b hb => by
                          have hown : ∃ u κ, owns st.r bx ph u κ b := by
                            rcases hb with hb | hb
                            · exact ⟨_, _, a5 b hb⟩
                            · exact ⟨_, _, hnown b hb⟩
                          obtain ⟨u0, κ0, hu0⟩ := hown
                          refine ⟨(h.heap.free _ _ _ hu0).1, (h.heap.free _ _ _ hu0).2, fun u κ ho' => ?_, h.mine _ _ _ hu0⟩
                          obtain ⟨h1, h2⟩ := owns_dead ho'
                          obtain ⟨h3, h4⟩ := a9 u κ b h1
                          rcases hb with hb | hb
                          · exact h4 hb
                          · exact h2 (h.heap.inj _ _ _ _ b h3 (hnown b hb)))
                        (fun g hg => ⟨.inl (b4 g hg).1, (b4 g hg).2 a4, fun hg2 => hcross g (b4 g hg).1 (n6 g hg2)⟩) (fun b hb => by
                          rcases hb with hb | hb
                          · exact .inl (b5 b hb)
                          · exact .inr (n6 b hb)) (List.nodup_append.2 ⟨b6 a4, n7 t2', fun b hb b' hb' e => by subst e; exact hcross b (b5 b hb) (n6 b hb')⟩) (dst := dst) (fun k hk => by show k < (kill (ofCell t2 o2) st2.s).length; rw [hl, a7]; exact hdst k hk)
                      refine ⟨z, w', r1, ?_, fun ⟨c, hc⟩ => by cases hc⟩
                      rw [plus_std]
                      have e9 : ({ s := kill (ofCell t2 o2) st2.s, r := setCellR st2.r t2 o2 .dead } : St).s.length = st.s.length := by show (kill (ofCell t2 o2) st2.s).length = _; rw [hl, a7]
                      rw [e9] at r2
                      exact r2
                    · cases hp
                  · cases hp
              · cases hp
            · cases hp
          · cases hp
        · cases hp
  · cases hp
end Go.Proofs.Ytcpcghnpoekhpaa.A
/- The ghost machine, part 23: all operations that make or change memory; one operation. -/
set_option linter.unusedSimpArgs false
set_option linter.unusedVariables false
set_option maxRecDepth 100000
set_option maxHeartbeats 4000000
namespace Go.Proofs.Ytcpcghnpoekhpaa.A
open Go Go.RowKit
variable {P : Program} {T : TT} {w w' w0 : World} {S S0 : Nat → Prop} {F : Fr} {bx : Nat → Nat} {ph : Nat → Nat → Pv} {a : Act} {st st' : St}
def writes (st : St) (o : Oper) : Bool :=
 match o.op with
 | .store _ _ _ => true
 | .call { callee := .builtin .append, args, .. } =>
  match args.toList with
  | [x, _] => match ev st.s x with | .one (.c _) => false | _ => true
  | _ => true
 | .call { callee := .builtin .copy, .. } => true
 | .call { callee := .value f, args, .. } =>
  match ev st.s f with
  | .one (.fn _ []) => (match args.toList with | x :: rest => (match ev st.s x with | .one (.view _ _) => (optAll ((rest.map (ev st.s)).map fnOf)).isSome || !((tsOf (args.toList.map (ev st.s))).all Option.isNone) | _ => !((tsOf (args.toList.map (ev st.s))).all Option.isNone)) | [] => false)
  | .one (.fn _ caps) => !((tsOf (args.toList.map (ev st.s) ++ caps.map fun t => .one (.ptr t 0))).all Option.isNone)
  | _ => true
 | .mapUpdate _ _ _ _ | .mapEntry _ _ _ | .entryStore _ _ _ _ => true
 | _ => false
theorem writes_call {f' : FuncId} {caps : List Nat} {f : Operand} {args : Array Operand} {ats : Array TypeId} {dst : Option Tmp} {type : TypeId} {pos : String} {after : Array Edge} {guard : Option (Nat × Bool)} (hf : ev st.s f = .one (.fn f' caps))
  (hw : writes st ⟨dst, .call { callee := .value f, args := args, argTypes := ats }, type, pos, after, guard⟩ = false) : (tsOf (args.toList.map (ev st.s) ++ caps.map fun t => .one (.ptr t 0))).all Option.isNone = true := by
 simp only [writes, hf] at hw
 cases caps with
 | nil =>
  dsimp only at hw
  split at hw
  ·split at hw
   ·rw [Bool.or_eq_false_iff] at hw
    rw [List.map_nil, List.append_nil]; simpa using hw.2
   ·rw [List.map_nil, List.append_nil]; simpa using hw
  ·rename_i hq
   simp [hq, tsOf, uniq]
 | cons c cs => simpa using hw
theorem wp_value {o : Oper} {K : Act → World → Prop} {Q : Exit → Act → World → Prop} {z : Value} (h : (execOp a.eval o).run P w = .ok (.value z) w') (hk : K (a.put o.dst z) w') : o.wp P a w K Q := by
 unfold Oper.wp; rw [h]; exact hk
theorem wp_skipped {o : Oper} {K : Act → World → Prop} {Q : Exit → Act → World → Prop} (h : (execOp a.eval o).run P w = .ok .skip w') (hk : K (a.put o.dst undef) w') : o.wp P a w K Q := by
 unfold Oper.wp; rw [h]; exact hk
theorem fin_undef (h : Rels T w0 S0 F st a w) {d : Option Nat} (hd : ∀ k, d = some k → k < st.s.length) : Rels T w0 S0 F (fin st d fun _ => .undef) (a.put d undef) w := by
 obtain ⟨S, bx, ph, h1, h2⟩ := h
 exact fin_sound h1 hd (fun _ _ _ _ _ _ _ _ => trivial)
theorem mapOp_sound (hT : TOk P T) (h : Rel T w0 S0 F st a w S bx ph) (hsp : st.r.getD st.s.length .none = .none) {o : Oper} {vf : Nat → V} {st1 : St} {obl : List Prop}
    (hp : mapOp T (std P T) st o = some (vf, st1, obl)) (ho : ∀ p ∈ obl, p) (hd : ∀ k, o.dst = some k → k < st.s.length) {K : Act → World → Prop} {Q : Exit → Act → World → Prop}
    (hK : ∀ z w', Rels T w0 S0 F (fin st1 o.dst vf) (a.put o.dst z) w' → (writes st o = false → Old w w') → K (a.put o.dst z) w') : o.wp P a w K Q := by
  obtain ⟨dst, op, type, pos, after, guard⟩ := o
  dsimp only at hK hd ⊢
  unfold mapOp at hp
  dsimp only at hp
  split at hp
  · rename_i t
    split at hp
    · rename_i kk te hty
      cases hp
      obtain ⟨h1, h2⟩ := pushOwn (w := w.alloc (.map #[] 0)) (h.world (Chg.alloc (fun _ => False) w _) (fun _ _ hf => hf.elim)) hsp (rc := .map kk GM.new) (z := .of (.map (some w.heap.size))) ⟨_, rfl, #[], by show (w.heap.push _)[_]? = _; simp [GM.new], rfl, rfl, fun i hi => absurd hi (by simp), fun k hk => absurd hk (by simp [GM.new])⟩ (fun b hb => by
        obtain rfl : w.heap.size = b := Option.some.inj hb
        exact ⟨fun hs => absurd (h.heap.low.1 _ hs) (by omega), by simp, fun t κ ho => absurd (h.heap.free _ _ _ ho).2 (by omega), .inl h.chg.size⟩)
      refine wp_value (z := .map (some w.heap.size)) (w' := w.alloc (.map #[] 0)) ?_ (hK _ _ ?_ fun _ => old_alloc _)
      · simp [execOp, Instr.makeMap]
      · refine fin_sound h1 hd (fun k bx' ph' hk e1 e2 e3 hh => ?_)
        refine ⟨kk, GM.new, ?_, ?_⟩
        · have : (name { st with r := pushR st.r st.s.length (.map kk GM.new) } k).r.getD k .none = _ := e3
          show ((name { st with r := pushR st.r st.s.length (.map kk GM.new) } k).r.getD k .none).row[0]? = _
          rw [this]
          show ((pushR st.r st.s.length (.map kk GM.new)).getD st.s.length .none).row[0]? = _
          rw [h2]; rfl
        · rw [e1 0]; simp [phPush]; rfl
    · cases hp
  · rename_i t m k v
    split at hp
    · rename_i kk te t' o' k' x hty hm hkey hv
      split at hp
      · rename_i c hst
        split at hp
        · rename_i kk' m' hmap
          split at hp
          · rename_i hcond
            obtain ⟨rfl, hok, _⟩ := hcond
            cases hp
            have hmr := ev_sound h m
            rw [hm] at hmr
            obtain ⟨kk2, m2, _, hmv⟩ := hmr
            have hvr := ev_sound h v
            rw [hv] at hvr
            obtain ⟨S', hf0, hcr⟩ := freezeAll_sound (P := P) [x] h
            have hf : Frozen T w0 S0 F st (freezeX T (std P T) st x) a w S S' bx ph := hf0
            have hcx := hcr x (List.mem_singleton.2 rfl) _ _ hvr hst
            have hc := mapAt_eq hmap
            obtain ⟨b, q1, es, q2, q3, q4, q5, q6⟩ := hf.rel.heap.cell hc
            obtain ⟨es', r1, r2⟩ := run_mapUpdate (P := P) hT hty q2 ⟨q3, q4, q5, q6⟩ hok hcx
            have h3 := map_write hf.rel hc q1 q2 r2
            refine wp_skipped (w' := _) ?_ (hK _ _ (fin_undef ⟨S', bx, ph, h3, ?_⟩ (fun k hk => ?_)) (fun hw => by simp [writes] at hw))
            · have e1 := keyOf_sound (ev_sound h k) hkey
              simp only [execOp, hmv, q1, e1, Sem.run_bind, r1]; rfl
            · have hl : (freezeX T (std P T) st x).s.length = st.s.length := hf.len
              have hz : ((freezeX T (std P T) st x).r.getD st.s.length .none) = .none := hf.spare _ hsp
              show (setMap (freezeX T (std P T) st x).r t' o' _ _).getD (freezeX T (std P T) st x).s.length .none = .none
              rw [hl]
              unfold setMap
              rw [getD_setCell]
              split
              · rename_i e1; subst e1; rw [hz]; rfl
              · exact hz
            · show k < (freezeX T (std P T) st x).s.length
              rw [show (freezeX T (std P T) st x).s.length = st.s.length from hf.len]; exact hd k hk
          · cases hp
        · cases hp
      · cases hp
    · cases hp
  · rename_i t m k
    split at hp
    · rename_i kk te t' o' k' hty hm hkey
      split at hp
      · rename_i kk' m' z kd hmap hz hkd
        split at hp
        · rename_i hcond
          obtain ⟨rfl, hok⟩ := hcond
          cases hp
          have hmr := ev_sound h m
          rw [hm] at hmr
          obtain ⟨kk2, m2, _, hmv⟩ := hmr
          have hc := mapAt_eq hmap
          obtain ⟨b, q1, es, q2, q3, q4, q5, q6⟩ := h.heap.cell hc
          obtain ⟨es', v, r1, r2, r3⟩ := run_mapEntry (P := P) hT hty q2 ⟨q3, q4, q5, q6⟩ hok (zeroC_sound hz)
          have h3 := map_write h hc q1 q2 r2
          have hobl : okK kd (mgetC m'.ks m'.vs k' z) := ho _ (List.mem_cons_self ..)
          have hsp3 : (setMap st.r t' o' kk (GM.ent m' k' z)).getD st.s.length .none = .none := by
            unfold setMap
            rw [getD_setCell]
            split
            · rename_i e1; subst e1; rw [hsp]; rfl
            · exact hsp
          refine wp_value (z := .tuple #[v, .int .i64 ((m'.ent k' z).stampOf k')]) ?_ (hK _ _ (fin_sound h3 hd (fun k bx' ph' hk e1 e2 e3 hh => ?_)) (fun hw => by simp [writes] at hw))
          · have e1 := keyOf_sound (ev_sound h k) hkey
            simp only [execOp, hmv, q1, e1, Sem.run_bind, r1]; rfl
          · refine ⟨_, rfl, rfl, fun i h1 h2 => ?_⟩
            match i, h1 with
            | 0, _ =>
              refine ⟨_, rfl, shape_sound (P := P) ?_ hobl⟩
              have hog : owns st.r bx ph t' (some o') b := own_blk hc (by show ownB (ph t' o').v = _; rw [q1]; rfl)
              exact r3.frame (h.heap.write hog (setBlk_chg w b _)).1 (fun _ h => h)
            | 1, _ => exact ⟨_, rfl, CRep.val rfl⟩
        · cases hp
      · cases hp
    · cases hp
  · rename_i t m n v
    split at hp
    · rename_i kk te t' o' n' v' hty hm hn hv
      split at hp
      · rename_i kk' m' hmap
        split at hp
        · rename_i hkk
          subst hkk
          cases hp
          have hmr := ev_sound h m
          rw [hm] at hmr
          obtain ⟨kk2, m2, _, hmv⟩ := hmr
          have hnr := ev_sound h n
          rw [hn] at hnr
          have hvr := ev_sound h v
          rw [hv] at hvr
          have hc := mapAt_eq hmap
          obtain ⟨b, q1, es, q2, q3, q4, q5, q6⟩ := h.heap.cell hc
          obtain ⟨es', r1, r2⟩ := run_entryStore (P := P) (t := t) q2 ⟨q3, q4, q5, q6⟩ (ho _ (List.mem_cons_self ..)) hvr
          have h3 := map_write h hc q1 q2 r2
          refine wp_skipped (w' := _) ?_ (hK _ _ (fin_undef ⟨S, bx, ph, h3, ?_⟩ hd) (fun hw => by simp [writes] at hw))
          · simp only [execOp, hmv, q1, (crep_val hnr).1, Sem.run_bind, r1]; rfl
          · show (setMap st.r t' o' _ _).getD st.s.length .none = .none
            unfold setMap
            rw [getD_setCell]
            split
            · rename_i e1; subst e1; rw [hsp]; rfl
            · exact hsp
        · cases hp
      · cases hp
    · cases hp
  · cases hp
theorem settle_sound (h : Rel T w0 S0 F st a w S bx ph) (hsp : st.r.getD st.s.length .none = .none) {vs : Array Value} {xs xs0 : List X} {st0 : St} (hx : XsRep T w S st.r bx ph vs xs) (hs : settle T (std P T) st xs = some (st0, xs0)) :
  ∃ S', Rel T w0 S0 F st0 a w S' bx ph ∧ XsRep T w S' st0.r bx ph vs xs0 ∧ xs0.length = xs.length ∧ st0.s.length = st.s.length ∧ st0.r.getD st.s.length .none = .none := by
 unfold settle at hs
 split at hs
 ·split at hs
  ·rename_i cs hcs
   cases hs
   obtain ⟨S', hf, hcr⟩ := freezeAll_sound (P := P) xs h
   have h2 := optAll_some _ _ hcs
   have hlen : xs.length = cs.length := by have := congrArg List.length h2; simpa using this
   refine ⟨S', hf.rel, ⟨by rw [hx.1]; simp [hlen], fun k hk hk2 => ?_⟩, by simp [hlen], hf.len, hf.spare _ hsp⟩
   have hk3 : k < cs.length := by simpa using hk
   have hk4 : k < xs.length := by omega
   have h3 := congrArg (fun l => l[k]?) h2
   simp only [List.getElem?_map, List.getElem?_eq_getElem hk3, List.getElem?_eq_getElem hk4, Option.map_some, Option.some.injEq] at h3
   rw [List.getElem_map]
   exact cX_sound (hcr xs[k] (List.getElem_mem hk4) _ _ (hx.2 k hk4 hk2) h3)
  ·cases hs
 ·cases hs
  exact ⟨S, h, hx, rfl, rfl, hsp⟩
theorem runOp0_sound (hT : TOk P T) (h : Rel T w0 S0 F st a w S bx ph) (hsp : st.r.getD st.s.length .none = .none) {o : Oper} {cr : Option (RV × List Root)} {vf : Nat → V} {st1 : St} {obl : List Prop}
    (hp : runOp0 T (std P T) st o cr = some (vf, st1, obl)) (ho : ∀ p ∈ obl, p) (hd : ∀ k, o.dst = some k → k < st.s.length) {K : Act → World → Prop} {Q : Exit → Act → World → Prop}
    (hK : ∀ z w', Rels T w0 S0 F (fin st1 o.dst vf) (a.put o.dst z) w' → (writes st o = false → Old w w') → K (a.put o.dst z) w') : o.wp P a w K Q := by
  obtain ⟨dst, op, type, pos, after, guard⟩ := o
  unfold runOp0 at hp
  dsimp only at hp hK hd ⊢
  split at hp
  · rename_i e
    split at hp
    · rename_i ti hti
      obtain ⟨_, i, hi, _, _, hz, _⟩ := hT e ti hti
      split at hp
      · cases hp
      · rename_i hne
        split at hp
        · rename_i st2 hpu
          split at hp
          · cases hp
          rename_i hme
          cases hp
          have hx : cellsOfV (constV ti.zero) ≠ [] := hne
          have := box_core h hsp (const_sound ti.zero) hx hpu (Bool.eq_false_iff.2 hme) hd e
          refine wp_value (z := .pointer (some ⟨w.heap.size, 0, none⟩)) (w' := w.alloc (.cells ti.zero.cells e)) ?_ (hK _ _ this fun _ => old_alloc _)
          simp [execOp, Instr.alloc, zeroValue, typeInfo, hi, hz, newVar, newRow]
        · cases hp
    · cases hp
  · rename_i e x
    split at hp
    · cases hp
    · rename_i hne
      split at hp
      · rename_i st2 hpu
        split at hp
        · cases hp
        rename_i hme
        cases hp
        have := box_core h hsp (ev_sound h x) hne hpu (Bool.eq_false_iff.2 hme) hd e
        refine wp_value (z := .pointer (some ⟨w.heap.size, 0, none⟩)) (w' := w.alloc (.cells (a.eval x).cells e)) ?_ (hK _ _ this fun _ => old_alloc _)
        simp [execOp, Instr.box, newVar, newRow]
      · cases hp
  · rename_i t len parts
    split at hp
    · rename_i ti hti
      split at hp
      · rename_i e hde
        split at hp
        · rename_i te hte
          split at hp
          · cases hp
          · rename_i hc
            simp only [not_or, Bool.not_eq_true, Bool.not_eq_false] at hc
            obtain ⟨c1, c2, c3, c4⟩ := hc
            split at hp
            · rename_i cs hcs
              cases hp
              have hd' : descOf T t = .slice e := by unfold descOf; rw [hti]; exact hde
              obtain ⟨z, w', r1, r2, r3⟩ := buildSlice_sound hT h hsp hd' hte (by simpa using c1) (fun p hp => by
                have := List.all_eq_true.1 (by simpa using c2 : (parts.toList.map fun p => cellsOfV (ev st.s p.2)).all (fun u => u.length == te.size) = true) _ (List.mem_map.2 ⟨p, hp, rfl⟩)
                simpa using this) (by omega) c4 hcs hd
              refine wp_value (z := z) (w' := w') ?_ (hK _ _ r2 fun _ => r3)
              simp only [execOp, Sem.run_bind, r1]; rfl
            · cases hp
        · cases hp
      · cases hp
    · cases hp
  · rename_i t l c
    split at hp
    · rename_i ti li ci hti hl hc
      split at hp
      · rename_i e hde
        split at hp
        · rename_i te hte
          split at hp
          · rename_i zs hzs
            split at hp
            · cases hp
            · rename_i hcc
              simp only [not_or, ne_eq, Decidable.not_not] at hcc
              obtain ⟨c1, c2, c3⟩ := hcc
              cases hp
              have hd' : descOf T t = .slice e := by unfold descOf; rw [hti]; exact hde
              obtain ⟨kl, hkl⟩ := num_sound (ev_sound h l) hl
              obtain ⟨kc, hkc⟩ := num_sound (ev_sound h c) hc
              obtain ⟨z, w', r1, r2, r3⟩ := makeSlice_sound (kl := kl) (kc := kc) hT h hsp hd' hte hzs c1 c2 c3 (ho _ (List.mem_cons_self ..)) (ho _ (List.mem_cons_of_mem _ (List.mem_cons_self ..))) (ho _ (List.mem_cons_of_mem _ (List.mem_cons_of_mem _ (List.mem_cons_self ..)))) hd
              refine wp_value (z := z) (w' := w') ?_ (hK _ _ r2 fun _ => r3)
              simp only [execOp, hkl, hkc, Sem.run_bind, r1]; rfl
          · cases hp
        · cases hp
      · cases hp
    · cases hp
  · rename_i t x y
    split at hp
    · rename_i ti hti
      split at hp
      · cases hp
      · rename_i hc
        simp only [not_or, ne_eq, Decidable.not_not] at hc
        obtain ⟨c1, c2⟩ := hc
        have hne : cellsOfV (ev st.s y) ≠ [] := fun h0 => by rw [h0] at c1; exact c2 c1.symm
        have hxs := cellsOf_sound h.heap (ev_sound h y) hne
        have hux := ev_sound h x
        split at hp
        · split at hp
          · rename_i st0 xs0 hset
            obtain ⟨S', h', hxs', l1, l2, hsp'⟩ := settle_sound (P := P) h hsp hxs hset
            split at hp
            · rename_i t' o hx
              have hux' := ev_sound h' x
              rw [hx] at hux'
              split at hp
              · rename_i st2 hpu
                split at hp
                · rename_i row hrow
                  split at hp
                  · rename_i hc3
                    cases hp
                    obtain ⟨w', r1, r2⟩ := box_store_sound hT h' (by rw [l2]; exact hsp') hti hux' hxs' (by rw [l1]; exact c1) hpu hrow hc3.1 hc3.2.1 hc3.2.2
                    refine wp_skipped (w' := w') ?_ (hK _ _ (fin_undef r2 (fun k hk => ?_)) (fun hw => by simp [writes] at hw))
                    · simp only [execOp, Sem.run_bind, r1]; rfl
                    · obtain ⟨_, _, _, q, _⟩ := r2
                      have := q.size
                      rw [← this, h.size]; exact hd k hk
                  · cases hp
                · cases hp
              · cases hp
            · cases hp
          · cases hp
        · rename_i t' o k hx
          rw [hx] at hux
          split at hp
          · rename_i cs hcs
            split at hp
            · rename_i e n cells hown
              cases hp
              have hle : plus (std P T) k ti.size ≤ cells.length := ho _ (List.mem_cons_self ..)
              rw [plus_std] at hle
              obtain ⟨w', r1, S', r2⟩ := eptr_store_sound hT h hti hux hxs c1 hcs hown hle
              have hlen : ((cellsOfV (ev st.s y)).foldl (freezeX T (std P T)) st).s.length = st.s.length := by
                have := r2.size
                rw [h.size] at this
                exact this.symm
              refine wp_skipped (w' := w') ?_ (hK _ _ (fin_undef ⟨S', bx, ph, r2, ?_⟩ (fun k hk => ?_)) (fun hw => by simp [writes] at hw))
              · simp only [execOp, Sem.run_bind, r1]; rfl
              · obtain ⟨S2, hf, _⟩ := freezeAll_frz (P := P) (cellsOfV (ev st.s y)) st S h
                show (setCellR _ t' o _).getD ((cellsOfV (ev st.s y)).foldl (freezeX T (std P T)) st).s.length .none = .none
                rw [getD_setCell, hlen]
                split
                · rename_i e1; subst e1; rw [hf.spare _ hsp]; rfl
                · exact hf.spare _ hsp
              · show k < ((cellsOfV (ev st.s y)).foldl (freezeX T (std P T)) st).s.length
                rw [hlen]; exact hd k hk
            · cases hp
          · cases hp
        · cases hp
    · cases hp
  · rename_i src d2 x
    split at hp
    · rename_i td s htd hx hsrc
      split at hp
      · rename_i e hde
        split at hp
        · rename_i hu8
          cases hp
          have hux := ev_sound h x
          rw [hx] at hux
          have hv := (crep_val hux).1
          have hd' : descOf T d2 = .slice e := by unfold descOf; rw [htd]; exact hde
          obtain ⟨z, w', r1, r2, r3⟩ := bytes_sound hT h hsp (s := s) (desc_of hT hsrc (by simp)) hd' hu8 hd
          refine wp_value (z := z) (w' := w') ?_ (hK _ _ r2 fun _ => r3)
          simp only [execOp, hv, Sem.run_bind, r1]; rfl
        · cases hp
      · cases hp
    · cases hp
  · rename_i args ats
    split at hp
    · rename_i x y t u hax hat
      split at hp
      · rename_i htu
        subst htu
        obtain ⟨z, w', r1, r2, r3⟩ := append_sound (ty := type) hT h hsp (ev_sound h x) (ev_sound h y) hp ho hd
        obtain ⟨args⟩ := args
        obtain ⟨ats⟩ := ats
        simp only at hax hat
        subst hax; subst hat
        refine wp_value (z := z) (w' := w') ?_ (hK _ _ r2 fun hw => ?_)
        · simp [execOp, resolve, invoke, builtin, r1]
        · refine r3 ?_
          simp only [writes] at hw
          split at hw
          · rename_i c hc; exact ⟨c, hc⟩
          · cases hw
      · unfold appZ at hp
        split at hp
        · rename_i kq n e te hdn hbase hn hel
          split at hp
          · rename_i zs hzs
            split at hp
            · cases hp
            · rename_i hbad
              cases hp
              have hx := ev_sound h x
              rw [hbase] at hx
              obtain ⟨kn, hy⟩ := num_sound (ev_sound h y) hn
              have h0 : (1 : Int) ≤ n := ho _ (List.mem_cons_self ..)
              have h1 : n.toNat * te.bytes ≤ 140737488355328 := ho _ (List.mem_cons_of_mem _ (List.mem_cons_self ..))
              obtain ⟨_, hte, _⟩ := elemOf_desc hT hel
              have hd1 : descOf T t = .slice e := by
                unfold elemOf at hel
                split at hel
                · rename_i e' hd'
                  split at hel
                  · cases hel; exact hd'
                  · cases hel
                · cases hel
              obtain ⟨z, w', r1, r2, r3⟩ := zeros_sound (ty := type) (kn := kn) hT h hsp hd1 hdn hte hzs (by
                by_cases q : zs.length = te.size
                · exact q
                · exact absurd (.inl q) hbad) (fun q => hbad (.inr (.inl q))) (fun q => hbad (.inr (.inr q))) h0 h1 hd
              obtain ⟨args⟩ := args
              obtain ⟨ats⟩ := ats
              simp only at hax hat
              subst hax; subst hat
              refine wp_value (z := z) (w' := w') ?_ (hK _ _ r2 fun _ => r3)
              have hxv := crep_nil hx
              simp [execOp, resolve, invoke, builtin, hxv, hy, r1]
          · cases hp
        · cases hp
    · cases hp
  · rename_i args ats
    split at hp
    · rename_i x y t u hax hat
      split at hp
      · rename_i htu
        subst htu
        obtain ⟨z, w', r1, r2⟩ := copy_sound hT h (ev_sound h x) (ev_sound h y) hp ho hsp hd type
        obtain ⟨args⟩ := args
        obtain ⟨ats⟩ := ats
        simp only at hax hat
        subst hax; subst hat
        refine wp_value (z := z) (w' := w') ?_ (hK _ _ r2 fun hw => by simp [writes] at hw)
        simp [execOp, resolve, invoke, builtin, r1]
      · cases hp
    · cases hp
  · rename_i f args ats
    split at hp
    · rename_i f' caps cr' hf
      have huf := ev_sound h f
      rw [hf] at huf
      obtain ⟨hfv, hcaps⟩ := huf
      have gen : anyCall T (std P T) st f' (args.toList.map (ev st.s) ++ caps.map fun t => .one (.ptr t 0)) cr' = some (vf, st1, obl) → (writes st ⟨dst, .call { callee := .value f, args := args, argTypes := ats }, type, pos, after, guard⟩ = false → (tsOf (args.toList.map (ev st.s) ++ caps.map fun t => .one (.ptr t 0))).all Option.isNone = true) →
          Oper.wp P ⟨dst, .call { callee := .value f, args := args, argTypes := ats }, type, pos, after, guard⟩ a w K Q := fun hp hwr => by
          have hvals : ∀ k (h1 : k < (args.toList.map (ev st.s) ++ caps.map fun t => V.one (.ptr t 0)).length) (h2 : k < (args.toList.map a.eval ++ caps.map fun t => Value.pointer (some ⟨bx t, 0, none⟩)).length),
              VRep T w S st.r bx ph (args.toList.map a.eval ++ caps.map fun t => Value.pointer (some ⟨bx t, 0, none⟩))[k] (args.toList.map (ev st.s) ++ caps.map fun t => V.one (.ptr t 0))[k] := fun k h1 h2 => by
            by_cases hk : k < args.toList.length
            · rw [List.getElem_append_left (by simpa using hk), List.getElem_append_left (by simpa using hk)]
              exact vals_of h k (by simpa using hk) (by simpa using hk)
            · rw [List.getElem_append_right (by simpa using hk), List.getElem_append_right (by simpa using hk)]
              simp only [List.getElem_map, List.length_map]
              have hk2 : k - args.toList.length < caps.length := by simp only [List.length_append, List.length_map] at h1; omega
              obtain ⟨row, q1, q2⟩ := hcaps _ (List.getElem_mem hk2)
              exact ⟨row, q1, q2, rfl⟩
          obtain ⟨r1, r2⟩ := anyCall_sound h hsp (vs := args.toList.map a.eval ++ caps.map fun t => Value.pointer (some ⟨bx t, 0, none⟩)) (by simp) hvals hp ho hd
          unfold Oper.wp
          have hrun : (execOp a.eval ⟨dst, .call { callee := .value f, args := args, argTypes := ats }, type, pos, after, guard⟩).run P w = .ok (.enter f' (args.toList.map a.eval ++ caps.map fun t => Value.pointer (some ⟨bx t, 0, none⟩)).toArray) w := by
            have := r1 (args.map a.eval ++ (caps.map fun t => Value.pointer (some ⟨bx t, 0, none⟩)).toArray) w
            have e1 : args.map a.eval ++ (caps.map fun t => Value.pointer (some ⟨bx t, 0, none⟩)).toArray = (args.toList.map a.eval ++ caps.map fun t => Value.pointer (some ⟨bx t, 0, none⟩)).toArray := Array.toList_inj.1 (by simp)
            rw [e1] at this
            simp only [execOp, resolve, Deferred.ofValue, hfv, invoke, Sem.run_bind, Sem.run_pure, Result.andThen_ok]
            simpa [e1] using this
          rw [hrun]
          refine r2.mono fun e w' ⟨z, he, h1, h2⟩ => ?_
          subst he
          exact hK z w' h1 fun hw => h2 (hwr hw)
      split at hp
      · rename_i x rest hxs
        split at hp
        · rename_i r hoc
          cases hp
          obtain ⟨args⟩ := args
          simp only at hxs
          subst hxs
          obtain ⟨r1, r2⟩ := ownCall_sound h hsp (v := a.eval x) (vs := rest.map a.eval) (ev_sound h x) (by simp) (vals_of h) hoc ho hd
          unfold Oper.wp
          have hrun : (execOp a.eval ⟨dst, .call { callee := .value f, args := ⟨x :: rest⟩, argTypes := ats }, type, pos, after, guard⟩).run P w = .ok (.enter f' (a.eval x :: rest.map a.eval).toArray) w := by
            have := r1 (a.eval x :: rest.map a.eval).toArray w
            simp only [execOp, resolve, Deferred.ofValue, hfv, invoke, Sem.run_bind, Sem.run_pure, Result.andThen_ok]
            simpa using this
          rw [hrun]
          refine r2.mono fun e w' ⟨z, he, h1⟩ => ?_
          subst he
          refine hK z w' h1 fun hw => ?_
          exfalso
          unfold ownCall at hoc
          split at hoc
          · rename_i hx _ h3
            simp only [writes, hf, hx] at hw
            rw [h3] at hw
            simp at hw
          · cases hoc
        · exact gen hp (writes_call hf)
      · exact gen hp (writes_call hf)
    · cases hp
  · exact mapOp_sound hT h hsp hp ho hd hK
theorem meOp_sound (hT : TOk P T) (h : Rel T w0 S0 F st a w S bx ph) (hsp : st.r.getD st.s.length .none = .none) {o : Oper} {cr : Option (RV × List Root)} {vf : Nat → V} {st1 : St} {obl : List Prop}
  (hp : meOp T (std P T) st o cr = some (vf, st1, obl)) (ho : ∀ p ∈ obl, p) (hd : ∀ k, o.dst = some k → k < st.s.length) {K : Act → World → Prop} {Q : Exit → Act → World → Prop}
  (hK : ∀ z w', Rels T w0 S0 F (fin st1 o.dst vf) (a.put o.dst z) w' → (writes st o = false → Old w w') → K (a.put o.dst z) w') : o.wp P a w K Q := by
 obtain ⟨dst, op, type, pos, after, guard⟩ := o
 unfold meOp at hp
 dsimp only at hp hK hd ⊢
 split at hp
 ·rename_i t x y
  split at hp
  ·rename_i ti t' o g u hti hx hy
   split at hp
   ·rename_i row hrow
    split at hp
    ·rename_i hc
     obtain ⟨rfl, c2, c3, c4⟩ := hc
     cases hp
     have hux := ev_sound h x
     have huy := ev_sound h y
     rw [hx] at hux
     rw [hy] at huy
     obtain ⟨w', r1, r2⟩ := me_store_sound hT h hsp hti c2 hux huy hrow c3 c4
     refine wp_skipped (w' := w') ?_ (hK _ _ (fin_undef r2 (fun k hk => ?_)) (fun hw => by simp [writes] at hw))
     ·simp only [execOp, Sem.run_bind, r1]; rfl
     ·obtain ⟨_, _, _, q, _⟩ := r2
      have := q.size
      rw [← this, h.size]; exact hd k hk
    ·cases hp
   ·cases hp
  ·cases hp
 ·rename_i f args ats
  split at hp
  ·rename_i g t cr' hf
   have huf := ev_sound h f
   rw [hf] at huf
   obtain ⟨⟨row, q1, q2⟩, hfv⟩ := huf
   have hvals : ∀ k (h1 : k < (V.one (.ptr t 0) :: args.toList.map (ev st.s)).length) (h2 : k < (Value.pointer (some ⟨bx t, 0, none⟩) :: args.toList.map a.eval).length),
     VRep T w S st.r bx ph (Value.pointer (some ⟨bx t, 0, none⟩) :: args.toList.map a.eval)[k] (V.one (.ptr t 0) :: args.toList.map (ev st.s))[k] := fun k h1 h2 => by
    cases k with
    | zero => exact ⟨row, q1, q2, rfl⟩
    | succ k => exact vals_of h k (by simpa using h1) (by simpa using h2)
   obtain ⟨r1, r2⟩ := anyCall_sound h hsp (vs := Value.pointer (some ⟨bx t, 0, none⟩) :: args.toList.map a.eval) (by simp) hvals hp ho hd
   unfold Oper.wp
   have hrun : (execOp a.eval ⟨dst, .call { callee := .value f, args := args, argTypes := ats }, type, pos, after, guard⟩).run P w = .ok (.enter g (Value.pointer (some ⟨bx t, 0, none⟩) :: args.toList.map a.eval).toArray) w := by
    have := r1 (#[Value.pointer (some ⟨bx t, 0, none⟩)] ++ args.map a.eval) w
    have e1 : #[Value.pointer (some ⟨bx t, 0, none⟩)] ++ args.map a.eval = (Value.pointer (some ⟨bx t, 0, none⟩) :: args.toList.map a.eval).toArray := Array.toList_inj.1 (by simp)
    rw [e1] at this
    simp only [execOp, resolve, Deferred.ofValue, hfv, meV, invoke, Sem.run_bind, Sem.run_pure, Result.andThen_ok]
    simpa [e1] using this
   rw [hrun]
   refine r2.mono fun e w' ⟨z, he, h1, h2⟩ => ?_
   subst he
   exact hK z w' h1 fun hw => by simp [writes, hf] at hw
  ·cases hp
 ·cases hp
theorem treeOp_sound (hT : TOk P T) (h : Rel T w0 S0 F st a w S bx ph) (hsp : st.r.getD st.s.length .none = .none) {o : Oper} {vf : Nat → V} {st1 : St} {obl : List Prop}
    (hp : treeOp T (std P T) st o = some (vf, st1, obl)) (ho : ∀ p ∈ obl, p) (hd : ∀ k, o.dst = some k → k < st.s.length) {K : Act → World → Prop} {Q : Exit → Act → World → Prop}
    (hK : ∀ z w', Rels T w0 S0 F (fin st1 o.dst vf) (a.put o.dst z) w' → (writes st o = false → Old w w') → K (a.put o.dst z) w') : o.wp P a w K Q := by
  obtain ⟨dst, op, type, pos, after, guard⟩ := o
  unfold treeOp at hp
  dsimp only at hp hK hd ⊢
  split at hp
  · rename_i t len parts
    split at hp
    · rename_i e te hel
      split at hp
      · cases hp
      · split at hp
        · cases hp
        · rename_i hc
          simp only [not_or, Bool.not_eq_true, Bool.not_eq_false] at hc
          obtain ⟨c1, c2, c3, c4⟩ := hc
          split at hp
          · rename_i st2 hpu
            split at hp
            · rename_i cs hrow
              cases hp
              obtain ⟨_, hte, _⟩ := elemOf_desc hT hel
              have hd1 : descOf T t = .slice e := by
                unfold elemOf at hel
                split at hel
                · rename_i e' hd'
                  split at hel
                  · cases hel; exact hd'
                  · cases hel
                · cases hel
              obtain ⟨z, w', r1, r2, r3⟩ := treeBuild_sound hT h hsp hd1 hte (by simpa using c1) (fun p hp => by
                have := List.all_eq_true.1 (by simpa using c2 : (parts.toList.map fun p => cellsOfV (ev st.s p.2)).all (fun u => u.length == te.size) = true) _ (List.mem_map.2 ⟨p, hp, rfl⟩)
                simpa using this) (by omega) c4 hpu hrow hd
              refine wp_value (z := z) (w' := w') ?_ (hK _ _ r2 fun _ => r3)
              simp only [execOp, Sem.run_bind, r1]; rfl
            · cases hp
          · cases hp
    · cases hp
  · rename_i t l c
    split at hp
    · rename_i e te li ci hel hl hc
      split at hp
      · cases hp
      · split at hp
        · rename_i zs hzs
          split at hp
          · cases hp
          · rename_i hcc
            simp only [not_or, ne_eq, Decidable.not_not] at hcc
            obtain ⟨c1, c2, c3⟩ := hcc
            split at hp
            · rename_i zs' hrow
              cases hp
              obtain ⟨_, hte, _⟩ := elemOf_desc hT hel
              have hd1 : descOf T t = .slice e := by
                unfold elemOf at hel
                split at hel
                · rename_i e' hd'
                  split at hel
                  · cases hel; exact hd'
                  · cases hel
                · cases hel
              obtain ⟨kl, hkl⟩ := num_sound (ev_sound h l) hl
              obtain ⟨kc, hkc⟩ := num_sound (ev_sound h c) hc
              obtain ⟨z, w', r1, r2, r3⟩ := treeMake_sound (kl := kl) (kc := kc) hT h hsp hd1 hte hzs c1 c2 c3 hrow (ho _ (List.mem_cons_self ..)) (ho _ (List.mem_cons_of_mem _ (List.mem_cons_self ..))) (ho _ (List.mem_cons_of_mem _ (List.mem_cons_of_mem _ (List.mem_cons_self ..)))) hd
              refine wp_value (z := z) (w' := w') ?_ (hK _ _ r2 fun _ => r3)
              simp only [execOp, hkl, hkc, Sem.run_bind, r1]; rfl
            · cases hp
        · cases hp
    · cases hp
  · rename_i t x y
    split at hp
    · rename_i ti t' o p k off hti hx
      split at hp
      · cases hp
      · rename_i hc
        simp only [not_or, ne_eq, Decidable.not_not] at hc
        obtain ⟨c1, c2, c3⟩ := hc
        split at hp
        · rename_i st2 hpu
          split at hp
          · rename_i sh c hh e ks n cells htree hnode
            split at hp
            · cases hp
            · rename_i hfit
              split at hp
              · rename_i cs hrow
                split at hp
                · rename_i obl2 hobl
                  cases hp
                  have hne : cellsOfV (ev st.s y) ≠ [] := fun h0 => by rw [h0] at c1; exact c2 c1.symm
                  have hxs := cellsOf_sound h.heap (ev_sound h y) hne
                  have hux := ev_sound h x
                  rw [hx] at hux
                  have hle : plus (std P T) k ti.size ≤ cells.length := ho _ (List.mem_cons_self ..)
                  rw [plus_std] at hle
                  obtain ⟨w', r1, r2⟩ := treeStore_sound hT h hsp hti hux hxs c1 c2 c3 hpu htree hnode (by omega) hrow hobl (fun q hq => ho q (List.mem_cons_of_mem _ hq)) hle
                  have e1 : updJ (std P T) (fun nd => .sl (lenJ (std P T) nd) ((std P T).set (clsJ (std P T) nd) k cs)) c p = updC (fun nd => .sl (gn nd) (setC (gc nd) k cs)) c p := by
                    rw [updJ_std]
                    congr 1
                    funext nd
                    rw [lenJ_std, clsJ_std]; rfl
                  rw [e1] at hK
                  refine wp_skipped (w' := w') ?_ (hK _ _ (fin_undef r2 (fun k hk => ?_)) (fun hw => by simp [writes] at hw))
                  · simp only [execOp, Sem.run_bind, r1]; rfl
                  · obtain ⟨_, _, _, q, _⟩ := r2
                    have := q.size
                    rw [← this, h.size]; exact hd k hk
                · cases hp
              · cases hp
          · cases hp
        · cases hp
    · cases hp
  · rename_i args ats
    split at hp
    · rename_i x y t u hax hat
      split at hp
      · rename_i htu
        subst htu
        obtain ⟨z, w', r1, r2, r3⟩ := treeApp_sound (ty := type) hT h hsp (ev_sound h x) (ev_sound h y) hp ho hd
        obtain ⟨args⟩ := args
        obtain ⟨ats⟩ := ats
        simp only at hax hat
        subst hax; subst hat
        refine wp_value (z := z) (w' := w') ?_ (hK _ _ r2 fun hw => ?_)
        · simp [execOp, resolve, invoke, builtin, r1]
        · refine r3 ?_
          simp only [writes] at hw
          split at hw
          · rename_i c hc; exact ⟨c, hc⟩
          · cases hw
      · cases hp
    · cases hp
  · cases hp
theorem runOp_sound (hT : TOk P T) (h : Rel T w0 S0 F st a w S bx ph) (hsp : st.r.getD st.s.length .none = .none) {o : Oper} {cr : Option (RV × List Root)} {vf : Nat → V} {st1 : St} {obl : List Prop}
  (hp : runOp T (std P T) st o cr = some (vf, st1, obl)) (ho : ∀ p ∈ obl, p) (hd : ∀ k, o.dst = some k → k < st.s.length) {K : Act → World → Prop} {Q : Exit → Act → World → Prop}
  (hK : ∀ z w', Rels T w0 S0 F (fin st1 o.dst vf) (a.put o.dst z) w' → (writes st o = false → Old w w') → K (a.put o.dst z) w') : o.wp P a w K Q := by
 unfold runOp at hp
 split at hp
 ·rename_i r hr
  cases hp
  exact treeOp_sound hT h hsp hr ho hd hK
 ·split at hp
  ·rename_i r hr
   cases hp
   exact meOp_sound hT h hsp hr ho hd hK
  ·exact runOp0_sound hT h hsp hp ho hd hK
end Go.Proofs.Ytcpcghnpoekhpaa.A
