/- The ghost machine, between parts 11 and 12: looks into maps. -/
import Derived.Test.YtdmdcmhgfgookaaAm11
import Derived.MapKept
import Derived.Laws.StructEq

set_option linter.unusedSimpArgs false
set_option linter.unusedVariables false
set_option maxRecDepth 100000
set_option maxHeartbeats 4000000
namespace Go.Proofs.Ytdmdcmhgfgookaa.A
open Go Go.RowKit
variable {P : Program} {T : TT} {w w0 : World} {S S0 : Nat → Prop} {F : Fr} {bx : Nat → Nat} {ph : Nat → Nat → Pv} {a : Act} {st st' : St}

theorem kkOf_cases {t : TypeId} {kk : KK} (h : kkOf T t = some kk) : (∃ k, descOf T t = .int k ∧ kk = .int k) ∨ (descOf T t = .string ∧ kk = .str) := by
  unfold kkOf at h
  split at h
  · cases h; exact .inl ⟨_, by assumption, rfl⟩
  · cases h; exact .inr ⟨by assumption, rfl⟩
  · cases h
theorem kidx_cons (k x : Value) (ks : List Value) : kidx (x :: ks) k = if keq k x = true then some 0 else (kidx ks k).map (· + 1) := by
  unfold kidx; rw [List.findIdx?_cons]
theorem sameNow_ok {kk : KK} {d : TypeDesc} (hd : (∃ k, d = .int k ∧ kk = .int k) ∨ (d = .string ∧ kk = .str)) {a b : Value} (ha : kk.ok a = true) (hb : kk.ok b = true) : Instr.sameNow d a b = some (keq a b) := by
  rcases hd with ⟨k, rfl, rfl⟩ | ⟨rfl, rfl⟩
  · cases a <;> simp [KK.ok] at ha; cases b <;> simp [KK.ok] at hb
    subst ha; subst hb
    simp only [Instr.sameNow, if_pos, keq]
    congr 1
  · cases a <;> simp [KK.ok] at ha; cases b <;> simp [KK.ok] at hb
    simp only [Instr.sameNow, keq]
    congr 1
    rw [Bool.eq_iff_iff, beq_toListBytes, beq_iff_eq, ByteArray.toList_eq, ByteArray.toList_eq]; simp only [decide_eq_true_eq]
    exact ⟨fun h => ByteArray.ext (Array.toList_inj.1 h), fun h => by rw [h]⟩
theorem findNow_ok {kk : KK} {d : TypeDesc} (hd : (∃ k, d = .int k ∧ kk = .int k) ∨ (d = .string ∧ kk = .str)) {k : Value} (hk : kk.ok k = true) : ∀ (es : List MapEntry) (i : Nat), (∀ e ∈ es, kk.ok e.key = true) →
    Instr.findNow d k es i = some ((kidx (es.map MapEntry.key) k).map fun n => (i + n, ((es[n]?).map (·.val)).getD undef)) := by
  intro es
  induction es with
  | nil => intro i _; rfl
  | cons e es ih =>
    intro i hall
    unfold Instr.findNow
    rw [sameNow_ok hd hk (hall e (List.mem_cons_self ..)), List.map_cons, kidx_cons]
    cases hq : keq k e.key with
    | true => simp
    | false =>
      simp only [Bool.false_eq_true, if_false]
      rw [ih (i + 1) (fun e he => hall e (List.mem_cons_of_mem _ he))]
      cases kidx (es.map MapEntry.key) k with
      | none => rfl
      | some n => simp [Nat.add_assoc, Nat.add_comm 1 n]
theorem run_findKey (hT : TOk P T) {kt : TypeId} {kk : KK} (hk : kkOf T kt = some kk) {k : Value} (hok : kk.ok k = true) (es : List MapEntry) (hall : ∀ e ∈ es, kk.ok e.key = true) (w : World) :
    (Instr.findKey kt k es).run P w = .ok ((kidx (es.map MapEntry.key) k).map fun n => (n, ((es[n]?).map (·.val)).getD undef)) w := by
  have hd := kkOf_cases hk
  have hu : P.underlying kt = some (descOf T kt) := by
    rcases hd with ⟨q, h, _⟩ | ⟨h, _⟩ <;> exact desc_of hT rfl (by rw [h]; simp)
  unfold Instr.findKey
  simp only [Sem.run_bind, run_underlying hu, Result.andThen_ok]
  rw [findNow_ok hd hok es 0 hall]
  simp only [Sem.run_pure, Nat.zero_add]
theorem run_checkKey (hT : TOk P T) {kt : TypeId} {kk : KK} (hk : kkOf T kt = some kk) {k : Value} (b : Bool) (w : World) : (Instr.checkKey b 10000 kt k).run P w = .ok () w := by
  have hd := kkOf_cases hk
  unfold Instr.checkKey
  rcases hd with ⟨q, h, _⟩ | ⟨h, _⟩
  · have hu : P.underlying kt = some (.int q) := desc_of hT h (by simp)
    simp [Sem.run_bind, run_underlying hu]
  · have hu : P.underlying kt = some .string := desc_of hT h (by simp)
    simp [Sem.run_bind, run_underlying hu]
theorem mapTy_desc (hT : TOk P T) {t : TypeId} {kk : KK} {te : TI} (h : mapTy T t = some (kk, te)) : ∃ k e, P.underlying t = some (.map k e) ∧ kkOf T k = some kk ∧ T e = some te ∧ te.size = 1 ∧ isAggD te.desc = false := by
  unfold mapTy at h
  split at h
  · rename_i k e hd
    split at h
    · rename_i kk' te' hk he
      split at h
      · rename_i hc
        cases h
        exact ⟨k, e, desc_of hT hd (by simp), hk, he, hc.1, hc.2⟩
      · cases h
    · cases h
  · cases h
theorem run_zero (hT : TOk P T) {e : TypeId} {te : TI} (he : T e = some te) (w : World) : (zeroValue e).run P w = .ok te.zero w := by
  obtain ⟨_, i, h2, _, _, h5, _⟩ := hT e te he
  simp [zeroValue, typeInfo, h2, h5]
theorem zeroC_sound {te : TI} {z : C} (h : zeroC te = some z) : CRep w S te.zero z := by
  unfold zeroC at h
  split at h
  · rename_i c hc
    cases h
    have h1 := const_sound (T := fun _ => none) (w := w) (S := S) (bx := fun _ => 0) (ph := fun _ _ => default) (r := []) te.zero
    rw [hc] at h1; exact h1
  · cases h
/-- what a look into a map gives -/
theorem get_sound {es : Array MapEntry} {ks : List Value} {cs : List C} {us : Nat → Value} {k zv : Value} {z : C} (hk : es.toList.map MapEntry.key = ks) (hl : cs.length = ks.length) (hv : ∀ i (h : i < es.size), es[i].val = us i)
    (hr : ∀ i (h : i < cs.length), CRep w S (us i) cs[i]) (hz : CRep w S zv z) : CRep w S (match kidx ks k with | some n => ((es.toList[n]?).map (·.val)).getD undef | none => zv) (mgetC ks cs k z) := by
  unfold mgetC
  cases hq : kidx ks k with
  | none => exact hz
  | some n =>
    have hn : n < ks.length := (List.findIdx?_eq_some_iff_findIdx_eq.1 hq).1
    have hn2 : n < es.size := by
      have : es.toList.length = ks.length := by rw [← hk]; simp
      rw [Array.length_toList] at this; omega
    have hn3 : n < cs.length := by omega
    dsimp only
    have e1 : ((es.toList[n]?).map (·.val)).getD undef = us n := by
      rw [Array.getElem?_toList, Array.getElem?_eq_getElem hn2]; exact hv n hn2
    rw [e1, List.getD_eq_getElem?_getD, List.getElem?_eq_getElem hn3]
    exact hr n hn3
theorem run_gm {b clock : Nat} {es : Array MapEntry} (hb : w.heap[b]? = some (.map es clock)) : (getObj b).run P w = .ok (.map es clock) w := by simp [getObj, Sem.run, hb]
theorem run_lookup (hT : TOk P T) {t : TypeId} {kk : KK} {te : TI} (ht : mapTy T t = some (kk, te)) {b clock : Nat} {es : Array MapEntry} {ks : List Value} {k : Value} (hb : w.heap[b]? = some (.map es clock))
    (hk : es.toList.map MapEntry.key = ks) (hall : ∀ k ∈ ks, kk.ok k = true) (hok : kk.ok k = true) (c : Bool) :
    (Instr.lookup t (.map (some b)) k c).run P w = .ok (if c = true then .tuple #[(match kidx ks k with | some n => ((es.toList[n]?).map (·.val)).getD undef | none => te.zero), .bool (mhasC ks k)] else
      (match kidx ks k with | some n => ((es.toList[n]?).map (·.val)).getD undef | none => te.zero)) w := by
  obtain ⟨kt, e, h1, h2, h3, _, _⟩ := mapTy_desc hT ht
  have hf := run_findKey hT h2 hok es.toList (fun e he => hall _ (by rw [← hk]; exact List.mem_map.2 ⟨e, he, rfl⟩)) w
  rw [hk] at hf
  unfold Instr.lookup
  simp only [Sem.run_bind, run_underlying h1, Result.andThen_ok, run_gm hb, Sem.run_pure, run_checkKey hT h2, hf]
  unfold mhasC
  cases kidx ks k with
  | none => cases c <;> simp [run_zero hT h3]
  | some n => cases c <;> simp
theorem run_lookup_nil (hT : TOk P T) {t : TypeId} {kk : KK} {te : TI} (ht : mapTy T t = some (kk, te)) {k : Value} (hok : kk.ok k = true) (c : Bool) (w : World) :
    (Instr.lookup t (.map none) k c).run P w = .ok (if c = true then .tuple #[te.zero, .bool false] else te.zero) w := by
  obtain ⟨kt, e, h1, h2, h3, _, _⟩ := mapTy_desc hT ht
  have hf := run_findKey hT h2 hok [] (fun e he => absurd he (by simp)) w
  unfold Instr.lookup
  simp only [Sem.run_bind, run_underlying h1, Result.andThen_ok, Sem.run_pure, run_checkKey hT h2, hf, Array.toList_empty]
  cases c <;> simp [run_zero hT h3, kidx]
/-- in a world that keeps what is stable and what is owned, the owned map -/
theorem own_map {r : List Root} {t o : Nat} {kk : KK} {m : GM} {w' : World} (h : Heap T w S r bx ph) (hc : (r.getD t .none).row[o]? = some (.map kk m)) (hk : Keep S r bx ph w w') : RCRep T w' S (ph t o) (.map kk m) :=
  (h.cell hc).frame hk.1 (fun _ h => h) fun b hb => hk.2 t (some o) b (own_blk hc hb)
theorem keyOf_sound {r : List Root} {v : Value} {V : V} {k : Value} (h : VRep T w S r bx ph v V) (hk : keyOf V = some k) : v = k := by
  unfold keyOf at hk
  split at hk
  · cases hk; exact (crep_val h).1
  · cases hk
theorem look_put {r : List Root} {kd : K} {c : C} {b ok : Bool} {zv : Value} {V1 : V} {obl obl' : List Prop} (hp : (if ok then some (A.V.tup [(false, [X.c (shape (std P T) kd c)]), (false, [X.c (C.val (Value.bool b))])], obl') else some (A.V.one (.c (shape (std P T) kd c)), obl')) = some (V1, obl))
    (hc : CRep w S zv c) (hk : okK kd c) : VRep T w S r bx ph (if ok = true then .tuple #[zv, .bool b] else zv) V1 := by
  have h1 : CRep w S zv (shape (std P T) kd c) := shape_sound hc hk
  cases ok with
  | true =>
    simp only [if_true, Option.some.injEq, Prod.mk.injEq] at hp ⊢
    obtain ⟨rfl, _⟩ := hp
    refine ⟨_, rfl, rfl, fun k hk hk2 => ?_⟩
    match k, hk with
    | 0, _ => exact ⟨_, rfl, h1⟩
    | 1, _ => exact ⟨_, rfl, CRep.val rfl⟩
  | false =>
    simp only [Bool.false_eq_true, if_false, Option.some.injEq, Prod.mk.injEq] at hp ⊢
    obtain ⟨rfl, _⟩ := hp
    exact h1
end Go.Proofs.Ytdmdcmhgfgookaa.A
