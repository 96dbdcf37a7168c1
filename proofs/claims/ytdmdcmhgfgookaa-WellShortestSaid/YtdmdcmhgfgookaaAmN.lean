/- The ghost machine, between parts 21 and 22: maps made and changed. -/
import Derived.Test.YtdmdcmhgfgookaaAm21
set_option linter.unusedSimpArgs false
set_option linter.unusedVariables false
set_option maxRecDepth 100000
set_option maxHeartbeats 4000000
namespace Go.Proofs.Ytdmdcmhgfgookaa.A
open Go Go.RowKit
variable {P : Program} {T : TT} {w w' w0 : World} {S S0 : Nat → Prop} {F : Fr} {bx : Nat → Nat} {ph : Nat → Nat → Pv} {a : Act} {st st' : St}

def setBlk (w : World) (b : Nat) (o : Obj) : World := { w with heap := w.heap.setIfInBounds b o }
theorem setBlk_chg (w : World) (b : Nat) (o : Obj) : Chg (fun k => k = b) w (setBlk w b o) := by
  refine ⟨rfl, rfl, rfl, by simp [setBlk], fun k hk hne => ?_⟩
  show (w.heap.setIfInBounds b o)[k]? = _
  rw [Array.getElem?_setIfInBounds, if_neg (fun e => hne e.symm)]
theorem setBlk_at {w : World} {b : Nat} (o : Obj) {o' : Obj} (h : w.heap[b]? = some o') : (setBlk w b o).heap[b]? = some o := by
  have hb : b < w.heap.size := by
    obtain ⟨h1, _⟩ := Array.getElem?_eq_some_iff.1 h; exact h1
  show (w.heap.setIfInBounds b o)[b]? = _
  rw [Array.getElem?_setIfInBounds, if_pos rfl, if_pos hb]
theorem run_sm {b clock : Nat} {es : Array MapEntry} (o : Obj) (hb : w.heap[b]? = some (.map es clock)) : (setObj b o).run P w = .ok () (setBlk w b o) := by simp [setObj, Sem.run, hb, setBlk]
theorem sameBits_self {kk : KK} {k : Value} (h : kk.ok k = true) : Instr.sameBits 10000 k k = true := by
  cases kk with
  | int q => cases k <;> simp [KK.ok] at h; simp [Instr.sameBits]
  | str =>
    cases k <;> simp [KK.ok] at h
    simp only [Instr.sameBits]
    rw [beq_toListBytes]; simp
  | ints n =>
    cases k <;> simp [KK.ok] at h
    rename_i c
    simp only [Instr.sameBits, beq_self_eq_true, Bool.true_and, List.all_eq_true]
    intro p hp
    have h1 : p.1 = p.2 := by
      obtain ⟨i, hi, rfl⟩ := List.mem_iff_getElem.1 hp
      simp
    have h2 : p.2 ∈ c.toList := (List.of_mem_zip hp).2
    have h3 : isI64 p.2 = true := by
      obtain ⟨i, hi, he⟩ := List.mem_iff_getElem.1 h2
      have hi' : i < c.size := by simpa using hi
      have := h.2 i hi'
      rw [← he]; simpa using this
    obtain ⟨u, v⟩ := p
    dsimp only at h1 h3 ⊢
    subst h1
    cases u <;> simp [isI64] at h3
    simp [Instr.sameBits]
theorem kidx_at {kk : KK} {ks : List Value} {k : Value} {i : Nat} (hall : ∀ k ∈ ks, kk.ok k = true) (hok : kk.ok k = true) (h : kidx ks k = some i) : ∃ hi : i < ks.length, ks[i] = k := by
  obtain ⟨hi, h1, _⟩ := List.findIdx?_eq_some_iff_getElem.1 h
  exact ⟨hi, ((keq_iff hok (hall _ (List.getElem_mem hi))).1 h1).symm⟩
/-- the entries of a map, as somebody who owns it sees them -/
structure MEs (w : World) (S : Nat → Prop) (kk : KK) (m : GM) (es : Array MapEntry) : Prop where
  keys : es.toList.map MapEntry.key = m.ks
  born : es.toList.map MapEntry.born = m.born
  val : ∀ i (h : i < es.size) (h2 : i < m.vs.length), CRep w S es[i].val m.vs[i]
  ok : ∀ k ∈ m.ks, kk.ok k = true
theorem MEs.size {kk : KK} {m : GM} {es : Array MapEntry} (h : MEs w S kk m es) : es.size = m.ks.length := by
  have : es.toList.length = m.ks.length := by rw [← h.keys]; simp
  rwa [Array.length_toList] at this
theorem MEs.frame {kk : KK} {m : GM} {es : Array MapEntry} (h : MEs w S kk m es) (hb : ∀ b, S b → w'.heap[b]? = w.heap[b]?) : MEs w' S kk m es :=
  ⟨h.keys, h.born, fun i h1 h2 => (h.val i h1 h2).frame hb (fun _ h => h), h.ok⟩
theorem MEs.put {kk : KK} {m : GM} {es : Array MapEntry} (h : MEs w S kk m es) {k v : Value} {c : C} (hok : kk.ok k = true) (hv : CRep w S v c) : MEs w S kk (m.put k c) (es.push { key := k, val := v, born := m.clock }) := by
  refine ⟨by simp [GM.put, h.keys], by simp [GM.put, h.born], fun i h1 h2 => ?_, fun k' hk => ?_⟩
  · have hl := h.size
    have hm := m.l1
    simp only [GM.put, List.length_append, List.length_cons, List.length_nil] at h2 ⊢
    rw [Array.getElem_push]
    split
    · rename_i hi
      rw [List.getElem_append_left (by omega)]
      exact h.val i hi (by omega)
    · rename_i hi
      rw [List.getElem_append_right (by omega)]
      simpa using hv
  · rcases List.mem_append.1 hk with hk | hk
    · exact h.ok k' hk
    · rw [List.mem_singleton.1 hk]; exact hok
theorem MEs.vset {kk : KK} {m : GM} {es : Array MapEntry} (h : MEs w S kk m es) {i : Nat} {v : Value} {c : C} (hv : CRep w S v c) : MEs w S kk (m.vset i c) (es.modify i fun e => { e with val := v }) := by
  refine ⟨?_, ?_, fun j h1 h2 => ?_, h.ok⟩
  · rw [show (m.vset i c).ks = m.ks from rfl, ← h.keys]
    apply List.ext_getElem?
    intro j
    simp only [List.getElem?_map, Array.getElem?_toList, Array.getElem?_modify]
    split <;> cases es[j]? <;> rfl
  · rw [show (m.vset i c).born = m.born from rfl, ← h.born]
    apply List.ext_getElem?
    intro j
    simp only [List.getElem?_map, Array.getElem?_toList, Array.getElem?_modify]
    split <;> cases es[j]? <;> rfl
  · have h1' : j < es.size := by simpa using h1
    have h2' : j < m.vs.length := by simpa [GM.vset] using h2
    simp only [GM.vset]
    rw [Array.getElem_modify, List.getElem_set]
    split
    · exact hv
    · exact h.val j h1' h2'
theorem modify_val {es : Array MapEntry} {i : Nat} {k v : Value} (h : ∀ hi : i < es.size, es[i].key = k) : (es.modify i fun e => { e with key := k, val := v }) = es.modify i fun e => { e with val := v } := by
  apply Array.ext
  · simp
  · intro j h1 h2
    simp only [Array.getElem_modify]
    split
    · rename_i e
      subst e
      have hi : i < es.size := by simpa using h1
      simp [h hi]
    · rfl
theorem modify_same {es : Array MapEntry} {i : Nat} {k : Value} (h : ∀ hi : i < es.size, es[i].key = k) : (es.modify i fun e => { e with key := k }) = es := by
  apply Array.ext
  · simp
  · intro j h1 h2
    simp only [Array.getElem_modify]
    split
    · rename_i e
      subst e
      simp [← h h2]
    · rfl
theorem MEs.key_at {kk : KK} {m : GM} {es : Array MapEntry} (h : MEs w S kk m es) {k : Value} {i : Nat} (hok : kk.ok k = true) (hi : kidx m.ks k = some i) : ∃ h1 : i < es.size, es[i].key = k := by
  obtain ⟨h1, h2⟩ := kidx_at h.ok hok hi
  have h3 : i < es.size := by rw [h.size]; exact h1
  refine ⟨h3, ?_⟩
  have := congrArg (fun l => l[i]?) h.keys
  simp only [List.getElem?_map, Array.getElem?_toList, Array.getElem?_eq_getElem h3, List.getElem?_eq_getElem h1, Option.map_some, Option.some.injEq] at this
  rw [this, h2]
theorem run_mapUpdate (hT : TOk P T) {t : TypeId} {kk : KK} {te : TI} (ht : mapTy T t = some (kk, te)) {b : Nat} {m : GM} {es : Array MapEntry} {k v : Value} (hb : w.heap[b]? = some (.map es m.clock)) (h : MEs w S kk m es) (hok : kk.ok k = true) {c : C} (hv : CRep w S v c) :
    ∃ es', (Instr.mapUpdate t (.map (some b)) k v).run P w = .ok () (setBlk w b (.map es' (m.set k c).clock)) ∧ MEs w S kk (m.set k c) es' := by
  obtain ⟨kt, e, h1, h2, h3, _, _⟩ := mapTy_desc hT ht
  have hf := run_findKey hT h2 hok es.toList (fun e he => h.ok _ (by rw [← h.keys]; exact List.mem_map.2 ⟨e, he, rfl⟩)) w
  rw [h.keys] at hf
  unfold Instr.mapUpdate
  simp only [Sem.run_bind, run_underlying h1, Result.andThen_ok, run_gm hb, run_checkKey hT h2, hf]
  unfold GM.set
  cases hq : kidx m.ks k with
  | none => exact ⟨_, by simp only [Option.map_none, run_sm _ hb, GM.put], h.put hok hv⟩
  | some i =>
    obtain ⟨h4, h5⟩ := h.key_at hok hq
    refine ⟨es.modify i fun e => { e with val := v }, ?_, h.vset hv⟩
    have e1 : ((es[i]?).map MapEntry.key).getD k = k := by rw [Array.getElem?_eq_getElem h4]; exact h5
    simp only [Option.map_some, e1, Instr.keyThatStays, sameBits_self hok, if_true, Sem.run_bind, Sem.run_pure, Result.andThen_ok, run_sm _ hb, GM.vset]
    rw [modify_val (es := es) (i := i) (k := k) (fun _ => h5)]
theorem run_mapEntry (hT : TOk P T) {t : TypeId} {kk : KK} {te : TI} (ht : mapTy T t = some (kk, te)) {b : Nat} {m : GM} {es : Array MapEntry} {k : Value} (hb : w.heap[b]? = some (.map es m.clock)) (h : MEs w S kk m es) (hok : kk.ok k = true) {z : C} (hz : CRep w S te.zero z) :
    ∃ es' v, (Instr.mapEntry t (.map (some b)) k).run P w = .ok (.tuple #[v, .int .i64 ((m.ent k z).stampOf k)]) (setBlk w b (.map es' (m.ent k z).clock)) ∧ MEs w S kk (m.ent k z) es' ∧ CRep w S v (mgetC m.ks m.vs k z) := by
  obtain ⟨kt, e, h1, h2, h3, _, _⟩ := mapTy_desc hT ht
  have hf := run_findKey hT h2 hok es.toList (fun e he => h.ok _ (by rw [← h.keys]; exact List.mem_map.2 ⟨e, he, rfl⟩)) w
  rw [h.keys] at hf
  unfold Instr.mapEntry
  simp only [Sem.run_bind, run_underlying h1, Result.andThen_ok, run_gm hb, run_checkKey hT h2, hf]
  unfold GM.ent mgetC
  cases hq : kidx m.ks k with
  | none =>
    refine ⟨_, te.zero, ?_, h.put hok hz, hz⟩
    dsimp only
    have e1 : (m.put k z).stampOf k = (m.clock : Int) := by
      unfold GM.stampOf
      have : kidx (m.put k z).ks k = some m.ks.length := by
        have hkk : keq k k = true := (keq_iff hok hok).2 rfl
        show List.findIdx? (keq k) (m.ks ++ [k]) = _
        have hq' : List.findIdx? (keq k) m.ks = none := hq
        rw [List.findIdx?_append, hq']
        simp [hkk]
      rw [this]
      have hl := m.l2
      simp [GM.put, ← hl]
    rw [e1]
    simp only [Option.map_none, run_zero hT h3, Sem.run_bind, Result.andThen_ok, run_sm _ hb, Sem.run_pure, GM.put, goInt]
  | some i =>
    obtain ⟨h4, h5⟩ := h.key_at hok hq
    have e1 : ((es[i]?).map MapEntry.key).getD k = k := by rw [Array.getElem?_eq_getElem h4]; exact h5
    have h6 : i < m.vs.length := by rw [m.l1, ← h.size]; exact h4
    dsimp only
    refine ⟨es, es[i].val, ?_, h, ?_⟩
    · have e3 : m.stampOf k = (es[i].born : Int) := by
        unfold GM.stampOf
        rw [hq]
        dsimp only
        have := congrArg (fun l => l[i]?) h.born
        simp only [List.getElem?_map, Array.getElem?_toList, Array.getElem?_eq_getElem h4, Option.map_some] at this
        rw [List.getD_eq_getElem?_getD, ← this]; rfl
      simp only [Option.map_some, e1, Instr.keyThatStays, sameBits_self hok, h5, if_true, Sem.run_bind, Sem.run_pure, Result.andThen_ok, run_sm _ hb, modify_same (es := es) (i := i) (k := k) (fun _ => h5), Array.getElem?_toList, Array.getElem?_eq_getElem h4, Option.getD_some, e3, goInt]
    · rw [List.getD_eq_getElem?_getD, List.getElem?_eq_getElem h6]
      exact h.val i h4 h6
theorem run_entryStore {t : TypeId} {kk : KK} {b : Nat} {m : GM} {es : Array MapEntry} {n : Int} {v : Value} (hb : w.heap[b]? = some (.map es m.clock)) (h : MEs w S kk m es) (hst : m.stamped n) {c : C} (hv : CRep w S v c) :
    ∃ es', (Instr.entryStore t (.map (some b)) (.int .i64 n) v).run P w = .ok () (setBlk w b (.map es' (m.stamp n c).clock)) ∧ MEs w S kk (m.stamp n c) es' := by
  unfold GM.stamped at hst
  unfold GM.stamp
  have hfi : es.findIdx? (fun e => (e.born : Int) == n) = m.bidx n := by
    unfold GM.bidx
    rw [← h.born, List.findIdx?_map]
    rw [← List.findIdx?_toArray]
    congr 1
  cases hq : m.bidx n with
  | none => rw [hq] at hst; cases hst
  | some i =>
    refine ⟨_, ?_, h.vset hv⟩
    rw [hq] at hfi
    unfold Instr.entryStore
    simp only [Sem.run_bind, Sem.run_pure, Result.andThen_ok, run_gm hb, asInt, asIntOf, hfi, run_sm _ hb, GM.vset]
theorem map_mrep {b : Nat} {kk : KK} {m : GM} {es : Array MapEntry} (hb : w.heap[b]? = some (.map es m.clock)) (h : MEs w S kk m es) : MRep w S b kk m := ⟨es, hb, h.keys, h.born, h.val, h.ok⟩
/-- an owned map is changed -/
theorem map_write (h : Rel T w0 S0 F st a w S bx ph) {t o b : Nat} {kk : KK} {m m' : GM} {es' : Array MapEntry} (hc : (st.r.getD t .none).row[o]? = some (.map kk m)) (hv : (ph t o).v = .map (some b)) {ob : Obj} (hob : w.heap[b]? = some ob) (h' : MEs w S kk m' es') :
    Rel T w0 S0 F { st with r := setMap st.r t o kk m' } a (setBlk w b (.map es' m'.clock)) S bx ph := by
  have hog : owns st.r bx ph t (some o) b := own_blk hc (by show ownB (ph t o).v = _; rw [hv]; rfl)
  have hcg := setBlk_chg w b (.map es' m'.clock)
  obtain ⟨hS, _, _⟩ := h.heap.write hog hcg
  exact cell_write h hc rfl (fun _ _ _ e => by cases e) (fun _ _ _ => ⟨_, _, rfl⟩) (fun _ _ _ e => by cases e) hog hcg ⟨b, hv, map_mrep (setBlk_at _ hob) (h'.frame hS)⟩
end Go.Proofs.Ytdmdcmhgfgookaa.A
