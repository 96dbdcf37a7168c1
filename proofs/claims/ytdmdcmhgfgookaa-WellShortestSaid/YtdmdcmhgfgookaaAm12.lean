/- The ghost machine, part 12: structs built; all operations that make and change nothing. -/
import Derived.Test.YtdmdcmhgfgookaaAmM
set_option linter.unusedSimpArgs false
set_option linter.unusedVariables false
set_option maxRecDepth 100000
set_option maxHeartbeats 4000000
namespace Go.Proofs.Ytdmdcmhgfgookaa.A
open Go Go.RowKit
variable {P : Program} {T : TT} {w w0 : World} {S S0 : Nat → Prop} {F : Fr} {bx : Nat → Nat} {ph : Nat → Nat → Pv} {a : Act} {st st' : St}

theorem splice_get (off : Nat) : ∀ (vs : List Value) (s : Nat) (cs : Array Value), ((vs.zipIdx s).foldl (fun cs p => cs.setIfInBounds (off + p.2) p.1) cs).size = cs.size ∧
    ∀ k, ((vs.zipIdx s).foldl (fun cs p => cs.setIfInBounds (off + p.2) p.1) cs)[k]? = if off + s ≤ k ∧ k < off + s + vs.length ∧ k < cs.size then vs[k - (off + s)]? else cs[k]? := by
  intro vs
  induction vs with
  | nil => intro s cs; refine ⟨rfl, fun k => ?_⟩; rw [if_neg (by simp; omega)]; rfl
  | cons v vs ih =>
    intro s cs
    rw [List.zipIdx_cons, List.foldl_cons]
    obtain ⟨h1, h2⟩ := ih (s + 1) (cs.setIfInBounds (off + s) v)
    refine ⟨by rw [h1]; simp, fun k => ?_⟩
    rw [h2 k, Array.getElem?_setIfInBounds]
    simp only [Array.size_setIfInBounds, List.length_cons]
    by_cases e : k = off + s
    · subst e
      rw [if_neg (by omega), if_pos rfl]
      by_cases h3 : off + s < cs.size
      · rw [if_pos h3, if_pos (by omega)]; simp
      · rw [if_neg h3, if_neg (by omega)]; simp; omega
    · rw [if_neg (show ¬ off + s = k by omega)]
      by_cases h3 : off + (s + 1) ≤ k ∧ k < off + (s + 1) + vs.length ∧ k < cs.size
      · rw [if_pos h3, if_pos (by omega)]
        rw [show k - (off + s) = (k - (off + (s + 1))) + 1 by omega]; rfl
      · rw [if_neg h3, if_neg (by omega)]

theorem cells_one (h : Heap T w S st.r bx ph) {v : Value} {x : X} (hx : x ≠ .undef) (hr : XRep T w S st.r bx ph v x) : v.cells = #[v] := by
  cases x with
  | c c =>
    have hr' : CRep w S v c := hr
    cases hr' with
    | val hp => cases v <;> first | rfl | (simp [plain] at hp)
    | nil => rfl
    | sl0 => rfl
    | sl _ _ _ _ _ => rfl
    | mem _ _ _ _ => rfl
    | map0 => rfl
    | map _ _ _ _ _ _ _ _ => rfl
  | mv t o =>
    obtain ⟨kk, m, h1, rfl⟩ := hr
    obtain ⟨b, q1, _⟩ := h.cell h1
    rw [q1]; rfl
  | view t o =>
    obtain ⟨e, n, cells, h1, rfl⟩ := hr
    rcases own_form (h.cell h1) with ⟨q1, _⟩ | ⟨g, cap, q1, _⟩ <;> (rw [q1]; rfl)
  | sub t o lo hi => obtain ⟨_, _, _, _, _, _, _, _, _, _, rfl, _⟩ := hr; rfl
  | ptr t o => obtain ⟨_, _, _, rfl⟩ := hr; rfl
  | eptr t o k => obtain ⟨_, _, _, _, _, _, _, rfl⟩ := hr; rfl
  | mem cells off => obtain ⟨_, _, _, rfl, _⟩ := hr; rfl
  | fn f caps => obtain ⟨rfl, _⟩ := hr; rfl
  | bfn f t => obtain ⟨_, rfl⟩ := hr; rfl
  | tv t o p => obtain ⟨_, _, _, rfl⟩ := tv_slice h hr; rfl
  | tp t o p k off => obtain ⟨_, _, _, _, _, _, _, _, _, _, _, _, _, _, _, _, rfl⟩ := hr; rfl
  | undef => exact absurd rfl hx
theorem cellsOf_sound (h : Heap T w S st.r bx ph) {v : Value} {V : V} (hv : VRep T w S st.r bx ph v V) (hne : cellsOfV V ≠ []) : XsRep T w S st.r bx ph v.cells (cellsOfV V) := by
  have one : ∀ x, x ≠ .undef → XRep T w S st.r bx ph v x → XsRep T w S st.r bx ph v.cells [x] := fun x hx hr => by
    rw [cells_one h hx hr]
    refine ⟨rfl, fun k hk hk2 => ?_⟩
    have : k = 0 := by simpa using hk
    subst this; exact hr
  cases V with
  | one x => cases x <;> first | exact absurd rfl hne | exact one _ (by simp) hv
  | agg xs => obtain ⟨cs, rfl, h2⟩ := hv; exact h2
  | tup vs => exact absurd rfl hne
  | undef => exact absurd rfl hne
  | nop => exact absurd rfl hne

theorem fill_sound (hT : TOk P T) (h : Heap T w S st.r bx ph) {fields : Array Field} {place : Nat → Option (Nat × Nat)} (hpl : ∀ (i : Nat) (fd : Field) (tf : TI), fields[i]? = some fd → T fd.type = some tf → place i = some (fd.offset, tf.size)) :
    ∀ (ps : List (Nat × V)) (vs : List (Nat × Value)) (cells : Array Value) (xs xs' : List X), vs.length = ps.length → (∀ k (h1 : k < ps.length) (h2 : k < vs.length), vs[k].1 = ps[k].1 ∧ VRep T w S st.r bx ph vs[k].2 ps[k].2) →
      XsRep T w S st.r bx ph cells xs → buildX T fields xs ps = some xs' → ∃ cells', Instr.fill place cells vs = some cells' ∧ XsRep T w S st.r bx ph cells' xs' := by
  intro ps
  induction ps with
  | nil =>
    intro vs cells xs xs' hl _ hx hb
    have : vs = [] := List.eq_nil_of_length_eq_zero hl
    subst this
    simp only [buildX, Option.some.injEq] at hb
    subst hb
    exact ⟨cells, rfl, hx⟩
  | cons p ps ih =>
    intro vs cells xs xs' hl hv hx hb
    cases vs with
    | nil => simp at hl
    | cons q vs =>
      obtain ⟨i, V⟩ := p
      obtain ⟨i', v⟩ := q
      obtain ⟨h1, h2⟩ := hv 0 (by simp) (by simp)
      simp only [List.getElem_cons_zero] at h1 h2
      subst h1
      unfold buildX at hb
      split at hb
      · rename_i fd hfd
        split at hb
        · rename_i tf htf
          split at hb
          · rename_i hc
            obtain ⟨c1, c2, c3⟩ := hc
            have hcs := cellsOf_sound h h2 c3
            obtain ⟨s1, s2⟩ := splice_get fd.offset v.cells.toList 0 cells
            have hsz : v.cells.size = tf.size := by rw [hcs.1, c1]
            have hX : XsRep T w S st.r bx ph (v.cells.zipIdx.foldl (fun cs p => cs.setIfInBounds (fd.offset + p.2) p.1) cells) (xs.take fd.offset ++ cellsOfV V ++ xs.drop (fd.offset + (cellsOfV V).length)) := by
              have e1 : v.cells.zipIdx.foldl (fun cs p => cs.setIfInBounds (fd.offset + p.2) p.1) cells = (v.cells.toList.zipIdx 0).foldl (fun cs p => cs.setIfInBounds (fd.offset + p.2) p.1) cells := by
                rw [← Array.foldl_toList]; simp
              rw [e1]
              refine ⟨?_, fun k hk hk2 => ?_⟩
              · rw [s1, hx.1]
                simp only [List.length_append, List.length_take, List.length_drop]; omega
              · have h3 := s2 k
                rw [Array.getElem?_eq_getElem hk2] at h3
                simp only [Nat.add_zero, Array.length_toList] at h3
                have hk' : k < xs.length := by
                  simp only [List.length_append, List.length_take, List.length_drop] at hk; omega
                have hkc : k < cells.size := by rw [hx.1]; exact hk'
                by_cases hin : fd.offset ≤ k ∧ k < fd.offset + v.cells.size
                · rw [if_pos ⟨hin.1, hin.2, hkc⟩] at h3
                  have h4 : k - fd.offset < v.cells.size := by omega
                  have e2 : (v.cells.toList)[k - fd.offset]? = some v.cells[k - fd.offset] := by simp [h4]
                  rw [e2] at h3
                  have h5 := hcs.2 (k - fd.offset) (by rw [← hcs.1]; exact h4) h4
                  have e3 : (xs.take fd.offset ++ cellsOfV V ++ xs.drop (fd.offset + (cellsOfV V).length))[k] = (cellsOfV V)[k - fd.offset]'(by rw [← hcs.1]; exact h4) := by
                    rw [List.getElem_append_left (by simp only [List.length_append, List.length_take]; rw [← hcs.1]; omega)]
                    rw [List.getElem_append_right (by simp only [List.length_take]; omega)]
                    congr 1
                    simp only [List.length_take]; omega
                  rw [e3]
                  rw [Option.some.inj h3]
                  exact h5
                · rw [if_neg (by omega)] at h3
                  rw [Array.getElem?_eq_getElem hkc] at h3
                  rw [Option.some.inj h3]
                  have h5 := hx.2 k hk' hkc
                  by_cases hlt : k < fd.offset
                  · have e3 : (xs.take fd.offset ++ cellsOfV V ++ xs.drop (fd.offset + (cellsOfV V).length))[k] = xs[k] := by
                      rw [List.getElem_append_left (by simp only [List.length_append, List.length_take]; omega)]
                      rw [List.getElem_append_left (by simp only [List.length_take]; omega)]
                      simp
                    rw [e3]; exact h5
                  · have e3 : (xs.take fd.offset ++ cellsOfV V ++ xs.drop (fd.offset + (cellsOfV V).length))[k] = xs[k] := by
                      rw [List.getElem_append_right (by simp only [List.length_append, List.length_take]; rw [← hcs.1]; omega)]
                      rw [List.getElem_drop]
                      congr 1
                      simp only [List.length_append, List.length_take]; rw [← hcs.1]; omega
                    rw [e3]; exact h5
            obtain ⟨cells', hh⟩ := ih vs _ _ xs' (by simpa using hl) (fun k hk hk2 => hv (k + 1) (by simp; omega) (by simp; omega)) hX hb
            refine ⟨cells', ?_, hh.2⟩
            simp only [Instr.fill]
            rw [hpl _ fd tf hfd htf]
            dsimp only
            · rw [if_neg (by
                have : cells.size = xs.length := hx.1
                have h7 : v.cells.size = (cellsOfV V).length := hcs.1
                simp only [ne_eq, Bool.or_eq_true, decide_eq_true_eq, not_or]
                constructor
                · simpa using hsz
                · omega)]
              exact hh.1
          · cases hb
        · cases hb
      · cases hb

theorem build_sound (hT : TOk P T) (h : Heap T w S st.r bx ph) {t : TypeId} {ps : List (Nat × V)} {vs : Array (Nat × Value)} {V : V} {obl : List Prop} (hl : vs.size = ps.length)
    (hv : ∀ k (h1 : k < ps.length) (h2 : k < vs.toList.length), vs.toList[k].1 = ps[k].1 ∧ VRep T w S st.r bx ph vs.toList[k].2 ps[k].2)
    (hp : buildV T t ps = some (V, obl)) : ∃ z, (∀ w' : World, (Instr.build t vs).run P w' = .ok z w') ∧ VRep T w S st.r bx ph z V := by
  unfold buildV at hp
  split at hp
  · rename_i ti ht
    obtain ⟨h1, i, h2, h3, h4, h5, _⟩ := hT t ti ht
    split at hp
    · rename_i fields zs hd hz
      split at hp
      · rename_i hall
        split at hp
        · rename_i xs hb
          cases hp
          rw [hd] at h1
          have hzr := const_sound (T := T) (w := w) (S := S) (bx := bx) (ph := ph) (r := st.r) ti.zero
          rw [hz] at hzr
          obtain ⟨zc, hzv, hzx⟩ := hzr
          have hpl : ∃ places : List (Nat × Nat), fields.toList.mapM (fun f => (P.info? f.type).map fun i => (f.offset, i.size)) = some places ∧ ∀ (i : Nat) (fd : Field) (tf : TI), fields[i]? = some fd → T fd.type = some tf → places[i]? = some (fd.offset, tf.size) := by
            have key : ∀ fs : List Field, fs.all (fun f => (T f.type).isSome) = true → ∃ places : List (Nat × Nat), fs.mapM (fun f => (P.info? f.type).map fun i => (f.offset, i.size)) = some places ∧ ∀ (i : Nat) (fd : Field) (tf : TI), fs[i]? = some fd → T fd.type = some tf → places[i]? = some (fd.offset, tf.size) := by
              intro fs
              induction fs with
              | nil => intro _; exact ⟨[], by simp, fun i fd tf h => by simp at h⟩
              | cons f fs ih =>
                intro hall
                simp only [List.all_cons, Bool.and_eq_true] at hall
                obtain ⟨pl, p1, p2⟩ := ih hall.2
                obtain ⟨tf, htf⟩ := Option.isSome_iff_exists.1 hall.1
                obtain ⟨_, i, q1, q2, _⟩ := hT f.type tf htf
                refine ⟨(f.offset, i.size) :: pl, by simp [List.mapM_cons, q1, p1], fun k fd tf' hk htf' => ?_⟩
                cases k with
                | zero =>
                  simp at hk; subst hk
                  rw [htf] at htf'; cases htf'
                  simp [q2]
                | succ k => simp at hk ⊢; exact p2 k fd tf' hk htf'
            obtain ⟨pl, p1, p2⟩ := key fields.toList hall
            exact ⟨pl, p1, fun i fd tf hi ht => p2 i fd tf (by simpa using hi) ht⟩
          obtain ⟨places, p1, p2⟩ := hpl
          obtain ⟨cells', f1, f2⟩ := fill_sound hT h (fields := fields) (place := fun i => places.toArray[i]?) (fun i fd tf hi ht => by simpa using p2 i fd tf hi ht) ps vs.toList zc zs xs (by simpa using hl) hv hzx hb
          refine ⟨.agg cells', fun w' => run_build w' t vs cells' ?_, ⟨cells', rfl, f2⟩⟩
          simp only [Program.built, h2, h1, h5, p1, hzv, Value.cells]
          exact f1
        · cases hp
      · cases hp
    · cases hp
  · cases hp

/-- does the operation's value hang on the memory ? -/
def reads (st : St) (o : Oper) : Bool :=
  match o.op with
  | .load _ _ => true
  | .convert _ _ x => match ev st.s x with | .one (.c (.val _)) => false | _ => true
  | .lookup _ _ _ _ => true
  | .call { callee := .builtin .len, args, .. } =>
    match args.toList with
    | [x] => match ev st.s x with | .one (.mv _ _) | .one (.c (.map _ _ _)) => true | _ => false
    | _ => false
  | _ => false
/-- looks into maps are sound -/
theorem lookOp_sound (hT : TOk P T) (h : Rel T w0 S0 F st a w S bx ph) {o : Oper} {V1 : V} {obl : List Prop} (hp : lookOp T (std P T) st o = some (V1, obl)) (ho : ∀ p ∈ obl, p) :
    ∃ z, (∀ w' : World, (reads st o = false ∨ Keep S st.r bx ph w w') → (execOp a.eval o).run P w' = .ok (.value z) w') ∧ VRep T w S st.r bx ph z V1 := by
  obtain ⟨dst, op, type, pos, after, guard⟩ := o
  unfold lookOp at hp
  dsimp only at hp
  split at hp
  · rename_i t x k c
    split at hp
    · rename_i kk te k' hty hkey
      split at hp
      · rename_i z kd hz hkd
        have hkv := keyOf_sound (ev_sound h k) hkey
        have hxr := ev_sound h x
        split at hp
        · rename_i t' o' hx
          rw [hx] at hxr
          obtain ⟨kk2, m2, hc, hv⟩ := hxr
          split at hp
          · rename_i kk' m hm
            split at hp
            · rename_i hcond
              obtain ⟨rfl, hok⟩ := hcond
              have hc2 := mapAt_eq hm
              obtain ⟨b, q1, es, q2, q3, q4, q5, q6⟩ := h.heap.cell hc2
              have hobl : okK kd (mgetC m.ks m.vs k' z) := by
                refine ho _ ?_
                cases c <;> (simp only [Bool.false_eq_true, if_false, if_true, Option.some.injEq, Prod.mk.injEq] at hp; rw [← hp.2]; exact List.mem_cons_self ..)
              refine ⟨_, fun w' hk => ?_, look_put (P := P) hp (get_sound (us := fun i => (es.getD i default).val) q3 m.l1 (fun i hi => by simp [hi]) (fun i hi => ?_) (zeroC_sound hz)) hobl⟩
              · have hk' : Keep S st.r bx ph w w' := by
                  rcases hk with hk | hk
                  · simp [reads] at hk
                  · exact hk
                have hrep := own_map h.heap hc2 hk'
                obtain ⟨b', r1, es', r2, r3, _, _, r6⟩ := hrep
                rw [q1] at r1; cases r1
                have hb : w'.heap[b]? = some (.map es m.clock) := (hk'.2 t' (some o') b (own_blk hc2 (by show ownB (ph t' o').v = _; rw [q1]; rfl))).trans q2
                have := run_lookup (P := P) hT hty hb q3 q6 hok c
                simp [execOp, hv, q1, hkv, this]
                rfl
              · have hi2 : i < es.size := by
                  have : es.toList.length = m.ks.length := by rw [← q3]; simp
                  have h2 := m.l1
                  rw [Array.length_toList] at this; omega
                have := q5 i hi2 hi
                simpa [hi2] using this
            · cases hp
          · cases hp
        · rename_i kk' ks vs hx
          rw [hx] at hxr
          have hxr' : CRep w S (a.eval x) (.map kk' ks vs) := hxr
          split at hp
          · rename_i hcond
            obtain ⟨rfl, hok⟩ := hcond
            have hobl : okK kd (mgetC ks vs k' z) := by
              refine ho _ ?_
              cases c <;> (simp only [Bool.false_eq_true, if_false, if_true, Option.some.injEq, Prod.mk.injEq] at hp; rw [← hp.2]; exact List.mem_cons_self ..)
            generalize hav : a.eval x = av at hxr'
            cases hxr' with
            | map0 =>
              have hz2 : CRep w S te.zero (mgetC [] [] k' z) := zeroC_sound hz
              refine ⟨_, fun w' hk => ?_, look_put (P := P) (zv := te.zero) hp hz2 hobl⟩
              have := run_lookup_nil (P := P) hT hty hok c w'
              have e0 : mhasC [] k' = false := rfl
              simp [execOp, hav, hkv, this, std, e0]
            | map us r1 r2 r3 r4 r5 r6 r7 =>
              rename_i b clock es
              refine ⟨_, fun w' hk => ?_, look_put (P := P) hp (get_sound r3 r4 r5 r6 (zeroC_sound hz)) hobl⟩
              have hk' : Keep S st.r bx ph w w' := by
                rcases hk with hk | hk
                · simp [reads] at hk
                · exact hk
              have := run_lookup (P := P) hT hty ((hk'.1 b r1).trans r2) r3 r7 hok c
              simp [execOp, hav, hkv, this]
              rfl
          · cases hp
        · cases hp
      · cases hp
    · cases hp
  · rename_i args ats
    split at hp
    · rename_i x t hx ht
      obtain ⟨args⟩ := args
      obtain ⟨ats⟩ := ats
      simp only at hx ht
      subst hx; subst ht
      have hxr := ev_sound h x
      split at hp
      · rename_i kt et t' o' hd hev
        rw [hev] at hxr
        obtain ⟨kk2, m2, hc, hv⟩ := hxr
        split at hp
        · rename_i kk m hm
          cases hp
          have hc2 := mapAt_eq hm
          obtain ⟨b, q1, es, q2, q3, _⟩ := h.heap.cell hc2
          have hlen : es.size = m.ks.length := by
            have : es.toList.length = m.ks.length := by rw [← q3]; simp
            rwa [Array.length_toList] at this
          refine ⟨.int .i64 (m.ks.length : Int), fun w' hk => ?_, CRep.val rfl⟩
          have hk' : Keep S st.r bx ph w w' := by
            rcases hk with hk | hk
            · simp [reads, hev] at hk
            · exact hk
          have hb : w'.heap[b]? = some (.map es m.clock) := (hk'.2 t' (some o') b (own_blk hc2 (by show ownB (ph t' o').v = _; rw [q1]; rfl))).trans q2
          have hu : P.underlying t = some (.map kt et) := desc_of hT hd (by simp)
          simp [execOp, resolve, invoke, builtin, hv, q1, Builtin.len_, run_underlying hu, run_gm hb, goInt, hlen]
        · cases hp
      · rename_i kt et kk ks vs hd hev
        rw [hev] at hxr
        cases hp
        have hu : P.underlying t = some (.map kt et) := desc_of hT hd (by simp)
        have hxr' : CRep w S (a.eval x) (.map kk ks vs) := hxr
        generalize hav : a.eval x = av at hxr'
        refine ⟨.int .i64 (ks.length : Int), fun w' hk => ?_, CRep.val rfl⟩
        have hk' : Keep S st.r bx ph w w' := by
          rcases hk with hk | hk
          · simp [reads, hev] at hk
          · exact hk
        cases hxr' with
        | map0 => simp [execOp, resolve, invoke, builtin, hav, Builtin.len_, run_underlying hu, goInt]
        | map us r1 r2 r3 r4 r5 r6 r7 =>
          rename_i b clock es
          have hlen : es.size = ks.length := by
            have : es.toList.length = ks.length := by rw [← r3]; simp
            rwa [Array.length_toList] at this
          simp [execOp, resolve, invoke, builtin, hav, Builtin.len_, run_underlying hu, run_gm ((hk'.1 b r1).trans r2), goInt, hlen]
      · cases hp
    · cases hp
  · cases hp

theorem brep_sound (h : Rel T w0 S0 F st a w S bx ph) (x : Option Operand) : BRep (x.map a.eval) (x.map fun l => num (ev st.s l)) := by
  cases x with
  | none => trivial
  | some x =>
    cases hn : num (ev st.s x) with
    | none => simp only [Option.map_some, hn]; trivial
    | some i =>
      simp only [Option.map_some, hn]
      exact num_sound (ev_sound h x) hn

theorem pureOp_sound (hT : TOk P T) (h : Rel T w0 S0 F st a w S bx ph) {gs : Option Bool} {o : Oper} {V : V} {obl : List Prop} (hp : pureOp T (std P T) st gs o = some (V, obl)) (ho : ∀ p ∈ obl, p) :
    ∃ z, (∀ w' : World, (reads st o = false ∨ Keep S st.r bx ph w w') → (execOp a.eval o).run P w' = .ok (.value z) w') ∧ VRep T w S st.r bx ph z V := by
  obtain ⟨dst, op, type, pos, after, guard⟩ := o
  unfold pureOp at hp
  dsimp only at hp
  split at hp
  · cases hp
    exact ⟨_, fun w' _ => by simp [execOp], ev_sound h _⟩
  · cases hp
    exact ⟨_, fun w' _ => by simp [execOp], ev_sound h _⟩
  · rename_i c x y
    split at hp
    · rename_i t g hc
      cases hp
      have hb : t = g := ho _ (List.mem_cons_self ..)
      subst hb
      have h1 := ev_sound h c
      rw [hc] at h1
      have h2 := (crep_val h1).1
      refine ⟨if t then a.eval x else a.eval y, fun w' _ => ?_, ?_⟩
      · simp [execOp, h2, asBool]
      · cases t
        · exact ev_sound h y
        · exact ev_sound h x
    · cases hp
  · rename_i x
    have h1 := ev_sound h x
    split at hp
    · rename_i t o hx
      cases hp
      rw [hx] at h1
      obtain ⟨row, q1, q2, q3⟩ := h1
      exact ⟨_, fun w' _ => by simp [execOp, q3], ⟨row, q1, q2, rfl⟩⟩
    · rename_i t o k hx
      cases hp
      rw [hx] at h1
      obtain ⟨e, n, cells, g, cap, q1, q2, q3⟩ := h1
      exact ⟨_, fun w' _ => by simp [execOp, q3], ⟨e, n, cells, g, cap, q1, q2, rfl⟩⟩
    · rename_i cells k hx
      cases hp
      rw [hx] at h1
      obtain ⟨b, base, vs, q1, q2⟩ := h1
      exact ⟨_, fun w' _ => by simp [execOp, q1], ⟨b, base, vs, rfl, q2⟩⟩
    · rename_i t o p k off hx
      cases hp
      rw [hx] at h1
      obtain ⟨sh, c, hh, q, e, ks, g, n, cap, q1, q2, q3, q4, q5, q6, q7, q8⟩ := h1
      exact ⟨_, fun w' _ => by simp [execOp, q8], ⟨sh, c, hh, q, e, ks, g, n, cap, q1, q2, q3, q4, q5, q6, q7, rfl⟩⟩
    · rename_i f caps hx
      cases hp
      rw [hx] at h1
      obtain ⟨q1, q2⟩ := h1
      exact ⟨_, fun w' _ => by simp [execOp, q1], ⟨rfl, q2⟩⟩
    · rename_i f t hx
      cases hp
      rw [hx] at h1
      obtain ⟨q1, q2⟩ := h1
      exact ⟨_, fun w' _ => by simp [execOp, q2, meV], ⟨q1, rfl⟩⟩
    · cases hp
  · rename_i bop t x y yt
    obtain ⟨z, h1, h2⟩ := bin_sound (x := x) (y := y) hT (ev_sound h x) (ev_sound h y) hp ho
    refine ⟨z, fun w' _ => ?_, h2⟩
    have := h1 w'
    simp only [execOp]
    simp only [Sem.run_bind] at this ⊢
    rw [this]; rfl
  · rename_i uop t x
    obtain ⟨z, h1, h2⟩ := un_sound (ev_sound h x) hp
    exact ⟨z, fun w' _ => by simp [execOp, h1 w'], h2⟩
  · rename_i src dst' x
    obtain ⟨z, h1, h2⟩ := conv_sound hT h.heap (ev_sound h x) hp ho
    refine ⟨z, fun w' hk => ?_, h2⟩
    have := h1 w' (hk.imp (fun hr => by
      simp only [reads] at hr
      split at hr
      · rename_i c hc; exact ⟨c, hc⟩
      · cases hr) id)
    simp [execOp, this]
  · rename_i s x f
    obtain ⟨z, h1, h2⟩ := fldAddr_sound hT (ev_sound h x) hp
    exact ⟨z, fun w' _ => by simp [execOp, h1 w'], h2⟩
  · rename_i s x f
    obtain ⟨z, h1, h2⟩ := fld_sound hT (ev_sound h x) hp
    exact ⟨z, fun w' _ => by simp [execOp, h1 w'], h2⟩
  · rename_i t x i
    obtain ⟨z, h1, h2⟩ := idxAddr_sound hT h.heap (ev_sound h x) (ev_sound h i) hp ho
    exact ⟨z, fun w' _ => by simp [execOp, h1 w'], h2⟩
  · rename_i t x i
    obtain ⟨z, h1, h2⟩ := idx_sound hT (ev_sound h x) (ev_sound h i) hp ho
    exact ⟨z, fun w' _ => by simp [execOp, h1 w'], h2⟩
  · rename_i t x lo hi
    obtain ⟨z, h1, h2⟩ := slice_sound hT h.heap (ev_sound h x) (brep_sound h lo) (brep_sound h hi) hp ho
    exact ⟨z, fun w' _ => by simp [execOp, h1 w'], h2⟩
  · rename_i x i
    have h1 := ev_sound h x
    split at hp
    · rename_i vs hx
      rw [hx] at h1
      obtain ⟨us, q1, q2, q3⟩ := h1
      split at hp
      · rename_i b xs hi
        split at hp
        · rename_i v hm
          cases hp
          obtain ⟨hi1, hi2⟩ := List.getElem?_eq_some_iff.1 hi
          have hiu : i < us.size := by omega
          have q4 := q3 i hi1 hiu
          rw [hi2] at q4
          refine ⟨us[i], fun w' _ => by simp [execOp, q1, Instr.extract, hiu], ?_⟩
          unfold PartRep at q4
          unfold mk at hm
          cases b with
          | true =>
            simp only [if_true] at q4 hm
            cases hm
            exact q4
          | false =>
            simp only [Bool.false_eq_true, if_false] at q4 hm
            obtain ⟨x, rfl, q5⟩ := q4
            cases hm
            exact q5
        · cases hp
      · cases hp
    · cases hp
  · rename_i t x
    obtain ⟨z, h1, h2⟩ := load_sound hT h.heap (ev_sound h x) hp ho
    refine ⟨z, fun w' hk => ?_, h2⟩
    rcases hk with hk | hk
    · simp [reads] at hk
    · simp [execOp, h1 w' hk]
  · rename_i args ats
    split at hp
    · rename_i x t hx ht
      split at hp
      · rename_i r hlen
        cases hp
        obtain ⟨z, h1, h2⟩ := len_sound (ty := type) hT h.heap (ev_sound h x) hlen
        refine ⟨z, fun w' _ => ?_, h2⟩
        obtain ⟨args⟩ := args
        obtain ⟨ats⟩ := ats
        simp only at hx ht
        subst hx; subst ht
        simp [execOp, resolve, invoke, builtin, h1 w']
      · exact lookOp_sound hT h hp ho
    · cases hp
  · rename_i t parts
    obtain ⟨z, h1, h2⟩ := build_sound hT h.heap (vs := parts.map fun p => (p.1, a.eval p.2)) (by simp) (fun k q1 q2 => by
      simp only [Array.toList_map, List.getElem_map]
      exact ⟨trivial, ev_sound h _⟩) hp
    exact ⟨z, fun w' _ => by simp [execOp, h1 w'], h2⟩
  · exact lookOp_sound hT h hp ho
end Go.Proofs.Ytdmdcmhgfgookaa.A
