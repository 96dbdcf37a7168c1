/- The ghost machine, part 9: reading, addresses, cuts, lengths, structs are sound. -/
import Derived.Test.YtdmdcmhgfgookaaAm8
set_option linter.unusedSimpArgs false
set_option linter.unusedVariables false
set_option maxRecDepth 100000
set_option maxHeartbeats 4000000
namespace Go.Proofs.Ytdmdcmhgfgookaa.A
open Go Go.RowKit
variable {P : Program} {T : TT} {w w0 : World} {S S0 : Nat → Prop} {F : Fr} {bx : Nat → Nat} {ph : Nat → Nat → Pv} {a : Act} {st st' : St}

theorem run_sizeOf (hT : TOk P T) {t : TypeId} {ti : TI} (h : T t = some ti) (w' : World) : (sizeOf t).run P w' = .ok ti.size w' := by
  obtain ⟨_, i, h1, h2, _⟩ := hT t ti h
  simp [sizeOf, typeInfo, h1, h2]
theorem run_isAgg (hT : TOk P T) {t : TypeId} {ti : TI} (h : T t = some ti) (w' : World) : (isAgg t).run P w' = .ok (isAggD ti.desc) w' := by
  obtain ⟨h0, _⟩ := hT t ti h
  simp only [isAgg, Sem.run_bind, run_underlying h0, Result.andThen_ok]
  cases ti.desc <;> rfl
theorem fieldOf_desc (hT : TOk P T) {s : TypeId} {f : Nat} {fd : Field} (h : fieldOf T s f = some fd) : ∃ fields, P.underlying s = some (.struct fields) ∧ fields[f]? = some fd := by
  unfold fieldOf at h
  split at h
  · rename_i fields hd
    exact ⟨fields, desc_of hT hd (by simp), h⟩
  · cases h
theorem run_fieldAt (hT : TOk P T) {s : TypeId} {f : Nat} {fd : Field} {tf : TI} (h : fieldOf T s f = some fd) (ht : T fd.type = some tf) (hz : tf.size ≠ 0) (ad : Addr) (w' : World) :
    (Instr.fieldAt s (.pointer (some ad)) f).run P w' = .ok (.pointer (some (ad.add fd.offset))) w' := by
  obtain ⟨fields, h1, h2⟩ := fieldOf_desc hT h
  simp [Instr.fieldAt, run_underlying h1, h2, Instr.sureAddr, fieldPlace, run_sizeOf hT ht, hz]

theorem fldAddr_sound (hT : TOk P T) {s : TypeId} {f : Nat} {u : Value} {U V : V} {obl : List Prop} (hu : VRep T w S st.r bx ph u U)
    (hp : fldAddrV T (std P T) st s f U = some (V, obl)) : ∃ z, (∀ w' : World, (Instr.fieldAt s u f).run P w' = .ok z w') ∧ VRep T w S st.r bx ph z V := by
  unfold fldAddrV at hp
  split at hp
  · rename_i fd hf
    split at hp
    · rename_i tf htf
      split at hp
      · cases hp
      · rename_i hz
        split at hp
        · rename_i t o
          split at hp
          · rename_i hin
            cases hp
            obtain ⟨row, h1, h2, rfl⟩ := hu
            refine ⟨_, fun w' => run_fieldAt hT hf htf hz _ w', ?_⟩
            rw [Addr.add_lit]
            have hrow : (rootOf st.r t).row = row := by unfold rootOf; rw [h1]; rfl
            rw [hrow] at hin
            exact ⟨row, h1, hin, rfl⟩
          · cases hp
        · cases hp
          obtain ⟨e, n, cells, g, cap, h1, h2, rfl⟩ := hu
          refine ⟨_, fun w' => run_fieldAt hT hf htf hz _ w', ?_⟩
          rw [Addr.add_lit, plus_std]
          exact ⟨e, n, cells, g, cap, h1, h2, rfl⟩
        · cases hp
          obtain ⟨b, base, vs, rfl, h2, h3, h4⟩ := hu
          refine ⟨_, fun w' => run_fieldAt hT hf htf hz _ w', ?_⟩
          rw [Addr.add_lit, plus_std]
          exact ⟨b, base, vs, by rw [Nat.add_assoc], h2, h3, h4⟩
        · cases hp
          obtain ⟨sh, c, hh, q, e, ks, g, n, cap, h1, h2, h3, h4, h5, h6, ⟨i, h7⟩, rfl⟩ := hu
          refine ⟨_, fun w' => run_fieldAt hT hf htf hz _ w', ?_⟩
          rw [Addr.add_lit, plus_std]
          exact ⟨sh, c, hh, q, e, ks, g, n, cap, h1, h2, h3, h4, h5, h6, ⟨i, by rw [h7, Nat.add_assoc]⟩, rfl⟩
        · cases hp
    · cases hp
  · cases hp

theorem fld_sound (hT : TOk P T) {r : List Root} {s : TypeId} {f : Nat} {u : Value} {U V : V} {obl : List Prop} (hu : VRep T w S r bx ph u U)
    (hp : fldV T s f U = some (V, obl)) : ∃ z, (∀ w' : World, (Instr.field s u f).run P w' = .ok z w') ∧ VRep T w S r bx ph z V := by
  unfold fldV at hp
  split at hp
  · rename_i fd hf
    obtain ⟨fields, hd, hfd⟩ := fieldOf_desc hT hf
    split at hp
    · rename_i tf xs htf
      obtain ⟨cs, rfl, hs, hx⟩ := hu
      split at hp
      · rename_i hag
        cases hp
        refine ⟨.agg (cs.extract fd.offset (fd.offset + tf.size)), fun w' => ?_, ⟨_, rfl, ?_, fun k hk hk2 => ?_⟩⟩
        · simp [Instr.field, run_underlying hd, hfd, part, run_isAgg hT htf, hag, run_sizeOf hT htf, asAgg]
        · simp [hs]; omega
        · have hk' : k < ((xs.drop fd.offset).take tf.size).length := hk
          have h1 : fd.offset + k < xs.length := by simp at hk'; omega
          have := hx (fd.offset + k) h1 (by omega)
          simpa using this
      · rename_i hag
        split at hp
        · rename_i x hx1
          cases hp
          obtain ⟨ho, he⟩ := List.getElem?_eq_some_iff.1 hx1
          have hag' : isAggD tf.desc = false := by simpa using hag
          refine ⟨cs[fd.offset], fun w' => ?_, ?_⟩
          · simp [Instr.field, run_underlying hd, hfd, part, run_isAgg hT htf, hag', asAgg, Array.getElem?_eq_getElem (show fd.offset < cs.size by omega)]
          · have := hx fd.offset ho (by omega)
            rw [he] at this
            exact this
        · cases hp
    · cases hp
  · cases hp

theorem elemOf_desc (hT : TOk P T) {t e : TypeId} {te : TI} (h : elemOf T t = some (e, te)) : P.underlying t = some (.slice e) ∧ T e = some te ∧ szOf T e = te.size := by
  unfold elemOf at h
  split at h
  · rename_i e' hd
    split at h
    · rename_i te' hte
      cases h
      exact ⟨desc_of hT hd (by simp), hte, by simp [szOf, hte]⟩
    · cases h
  · cases h
theorem run_idx (hT : TOk P T) {t e : TypeId} {te : TI} (h : elemOf T t = some (e, te)) (ad : Addr) (n cap : Nat) (k : IntKind) (i : Int) (h0 : 0 ≤ i ∧ i < (n : Int)) (w' : World) :
    (Instr.indexAt t (.slice (some ad) n cap) (.int k i)).run P w' = .ok (.pointer (some (ad.add (i.toNat * te.size)))) w' := by
  obtain ⟨h1, h2, h3⟩ := elemOf_desc hT h
  simp [Instr.indexAt, run_underlying h1, asIntOf, h0, run_sizeOf hT h2]

theorem idxAddr_sound (hT : TOk P T) (h : Heap T w S st.r bx ph) {t : TypeId} {u v : Value} {U I V : V} {obl : List Prop} (hu : VRep T w S st.r bx ph u U) (hi : VRep T w S st.r bx ph v I)
    (hp : idxAddrV T (std P T) st t U (num I) = some (V, obl)) (ho : ∀ p ∈ obl, p) : ∃ z, (∀ w' : World, (Instr.indexAt t u v).run P w' = .ok z w') ∧ VRep T w S st.r bx ph z V := by
  unfold idxAddrV at hp
  split at hp
  · rename_i e te i hel hnum
    obtain ⟨k, rfl⟩ := num_sound hi hnum
    obtain ⟨hd, hte, hsz⟩ := elemOf_desc hT hel
    split at hp
    · rename_i n cells
      cases hp
      have h0 : 0 ≤ i ∧ i < (n : Int) := ho _ (List.mem_cons_self ..)
      have hu' : CRep w S u (.sl n cells) := hu
      cases hu' with
      | sl0 => omega
      | sl vs hs hn hc hr =>
        refine ⟨_, fun w' => run_idx hT hel _ _ _ _ _ h0 w', ?_⟩
        rw [Addr.add_lit, mulSz_std]
        exact ⟨_, _, vs, rfl, hs, hc, hr⟩
    · rename_i t' o
      split at hp
      · rename_i e' n cells hown
        split at hp
        · rename_i he
          subst he
          cases hp
          have h0 : 0 ≤ i ∧ i < (n : Int) := ho _ (List.mem_cons_self ..)
          have hc := ownAt_eq hown
          obtain ⟨_, _, _, _, rfl⟩ := hu
          rcases own_form (h.cell hc) with ⟨h1, h2, h3⟩ | ⟨g, cap, h1, h2, h3, h4, us, h5, h6⟩
          · omega
          · rw [h1]
            refine ⟨_, fun w' => run_idx hT hel _ _ _ _ _ h0 w', ?_⟩
            rw [Addr.add_lit, mulSz_std, Nat.zero_add]
            exact ⟨e, n, cells, g, cap, hc, h1, rfl⟩
        · cases hp
      · cases hp
    · rename_i t' o lo hi'
      split at hp
      · rename_i e' n cells hown
        split at hp
        · rename_i he
          subst he
          cases hp
          have h0 : 0 ≤ i ∧ i < ((if lo = 0 then hi' else hi' - lo : Nat) : Int) := ho _ (List.mem_cons_self ..)
          have hc := ownAt_eq hown
          obtain ⟨e'', n'', cells'', aa, cap, a', h1, h2, h3, h4, rfl, h6, h7⟩ := hu
          rw [hc] at h1; cases h1
          have h0' : 0 ≤ i ∧ i < ((hi' - lo : Nat) : Int) := by
            refine ⟨h0.1, ?_⟩
            have := h0.2
            split at this <;> omega
          obtain ⟨g, rfl, rfl⟩ := h7 (by omega)
          refine ⟨_, fun w' => run_idx hT hel _ _ _ _ _ h0' w', ?_⟩
          rw [Addr.add_lit, mulSz_std, plus_std, hsz, ← Nat.add_mul]
          exact ⟨e, n, cells, g, cap, hc, h2, rfl⟩
        · cases hp
      · cases hp
    · rename_i t' o p
      split at hp
      · rename_i e' ks n cells hnode
        split at hp
        · rename_i he
          subst he
          cases hp
          have h0 : 0 ≤ i ∧ i < (n : Int) := ho _ (List.mem_cons_self ..)
          obtain ⟨sh, c, hh, k1, k2, rfl, rfl⟩ := nodeAt_eq hnode
          obtain ⟨sh', c', hh', q, e2, ks2, m1, m2, m3, m4, rfl, m5⟩ := tv_form h hu
          rw [k1] at m1; cases m1
          rw [k2] at m4; cases m4
          rcases m5 with ⟨m5, m6, _, _⟩ | ⟨g, cap, xs, hp', m5, m6, m7, _⟩
          · omega
          · rw [m6]
            refine ⟨_, fun w' => run_idx hT hel _ _ _ _ _ h0 w', ?_⟩
            rw [Addr.add_lit, mulSz_std, Nat.zero_add]
            exact ⟨sh, c, hh, q, e, ks, g, _, cap, k1, m2, m3, k2, m5, m6, ⟨i.toNat, by rw [hsz, Nat.add_zero]; rfl⟩, rfl⟩
        · cases hp
      · cases hp
    · cases hp
  · cases hp

theorem idx_sound (hT : TOk P T) {r : List Root} {t : TypeId} {u v : Value} {U I V : V} {obl : List Prop} (hu : VRep T w S r bx ph u U) (hi : VRep T w S r bx ph v I)
    (hp : idxV T (std P T) t U (num I) = some (V, obl)) (ho : ∀ p ∈ obl, p) : ∃ z, (∀ w' : World, (Instr.index t u v).run P w' = .ok z w') ∧ VRep T w S r bx ph z V := by
  unfold idxV at hp
  split at hp
  · rename_i s i hd hnum
    obtain ⟨k, rfl⟩ := num_sound hi hnum
    cases hp
    have h0 : 0 ≤ i ∧ i < (s.size : Int) := ho _ (List.mem_cons_self ..)
    obtain ⟨rfl, _⟩ := crep_val hu
    have ud := desc_of hT hd (by simp)
    refine ⟨_, fun w' => ?_, .val rfl⟩
    rw [run_index_string w' t s k i ud, dif_pos h0]
    have h1 : i.toNat < s.size := by omega
    show _ = Result.ok (Value.int .u8 (satB s i.toNat)) w'
    rw [satB, bt_eq h1]
  · cases hp

theorem len_sound (hT : TOk P T) {t ty : TypeId} {u : Value} {U V : V} {obl : List Prop} (h : Heap T w S st.r bx ph) (hu : VRep T w S st.r bx ph u U)
    (hp : lenV T (std P T) st t U = some (V, obl)) : ∃ z, (∀ w' : World, (Builtin.len_ #[t] ty #[u]).run P w' = .ok z w') ∧ VRep T w S st.r bx ph z V := by
  have hsl : ∀ e (a : Option Addr) (n cap : Nat) (w' : World), descOf T t = .slice e → (Builtin.len_ #[t] ty #[.slice a n cap]).run P w' = .ok (goInt n) w' := fun e a n cap w' hd => by
    have ud := desc_of hT hd (by simp)
    simp [Builtin.len_, run_underlying ud]
  unfold lenV at hp
  split at hp
  · rename_i s
    split at hp
    · rename_i hd
      cases hp
      obtain ⟨rfl, _⟩ := crep_val hu
      exact ⟨_, fun w' => run_len_string w' t ty s (desc_of hT hd (by simp)), .val rfl⟩
    · cases hp
  · rename_i n cells
    split at hp
    · rename_i e hd
      cases hp
      obtain ⟨a, cap, rfl⟩ := crep_sl hu
      exact ⟨_, fun w' => hsl e a n cap w' hd, .val rfl⟩
    · cases hp
  · split at hp
    · rename_i e hd
      cases hp
      rw [crep_nil hu]
      exact ⟨_, fun w' => hsl e none 0 0 w' hd, .val rfl⟩
    · cases hp
  · rename_i t' o
    split at hp
    · rename_i e e' n cells hd hown
      cases hp
      have hc := ownAt_eq hown
      obtain ⟨_, _, _, _, rfl⟩ := hu
      rcases own_form (h.cell hc) with ⟨h1, h2, h3⟩ | ⟨g, cap, h1, h2, h3, h4, us, h5, h6⟩
      · rw [h1, h2]; exact ⟨_, fun w' => hsl e none 0 0 w' hd, .val rfl⟩
      · rw [h1]; exact ⟨_, fun w' => hsl e _ n cap w' hd, .val rfl⟩
    · cases hp
  · rename_i t' o lo hi
    split at hp
    · rename_i e hd
      cases hp
      obtain ⟨e'', n'', cells'', aa, cap, a', h1, h2, h3, h4, rfl, h6, h7⟩ := hu
      refine ⟨_, fun w' => hsl e _ _ _ w' hd, ?_⟩
      have : (std P T).ofNat (if lo = 0 then hi else (std P T).sub hi lo) = ((hi - lo : Nat) : Int) := by
        show ((if lo = 0 then hi else hi - lo : Nat) : Int) = _
        split
        · rename_i h0; rw [h0, Nat.sub_zero]
        · rfl
      rw [this]
      exact .val rfl
    · cases hp
  · rename_i t' o p
    split at hp
    · rename_i e e' ks n cells hd hnode
      cases hp
      obtain ⟨sh, c, hh, k1, k2, rfl, rfl⟩ := nodeAt_eq hnode
      obtain ⟨sh', c', hh', q, e2, ks2, m1, m2, m3, m4, rfl, m5⟩ := tv_form h hu
      rw [k1] at m1; cases m1
      rcases m5 with ⟨m5, m6, _, _⟩ | ⟨g, cap, xs, hp', m5, m6, _⟩
      · rw [m5, m6]; exact ⟨_, fun w' => hsl e none 0 0 w' hd, .val rfl⟩
      · rw [m6]; exact ⟨_, fun w' => hsl e _ _ cap w' hd, .val rfl⟩
    · cases hp
  · cases hp
end Go.Proofs.Ytdmdcmhgfgookaa.A
