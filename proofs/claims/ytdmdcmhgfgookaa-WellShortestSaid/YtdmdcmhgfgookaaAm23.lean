/- The ghost machine, part 23: all operations that make or change memory; one operation. -/
import Derived.Test.YtdmdcmhgfgookaaAmTw
set_option linter.unusedSimpArgs false
set_option linter.unusedVariables false
set_option maxRecDepth 100000
set_option maxHeartbeats 4000000
namespace Go.Proofs.Ytdmdcmhgfgookaa.A
open Go Go.RowKit
variable {P : Program} {T : TT} {w w' w0 : World} {S S0 : Nat → Prop} {F : Fr} {bx : Nat → Nat} {ph : Nat → Nat → Pv} {a : Act} {st st' : St}

/-- may the operation change a block that was there ? -/
def writes (st : St) (o : Oper) : Bool :=
  match o.op with
  | .store _ _ _ => true
  | .call { callee := .builtin .append, args, .. } =>
    match args.toList with
    | [x, _] => match ev st.s x with | .one (.c _) => false | _ => true
    | _ => true
  | .call { callee := .builtin .copy, .. } => true
  | .call { callee := .value f, args, .. } =>
    match ev st.s f with
    | .one (.fn _ []) => (match args.toList with | x :: rest => (match ev st.s x with | .one (.view _ _) => (optAll ((rest.map (ev st.s)).map fnOf)).isSome || !((tsOf (args.toList.map (ev st.s))).all Option.isNone) | _ => !((tsOf (args.toList.map (ev st.s))).all Option.isNone)) | [] => false)
    | .one (.fn _ caps) => !((tsOf (args.toList.map (ev st.s) ++ caps.map fun t => .one (.ptr t 0))).all Option.isNone)
    | _ => true
  | .mapUpdate _ _ _ _ | .mapEntry _ _ _ | .entryStore _ _ _ _ => true
  | _ => false

theorem writes_call {f' : FuncId} {caps : List Nat} {f : Operand} {args : Array Operand} {ats : Array TypeId} {dst : Option Tmp} {type : TypeId} {pos : String} {after : Array Edge} {guard : Option (Nat × Bool)} (hf : ev st.s f = .one (.fn f' caps))
    (hw : writes st ⟨dst, .call { callee := .value f, args := args, argTypes := ats }, type, pos, after, guard⟩ = false) : (tsOf (args.toList.map (ev st.s) ++ caps.map fun t => .one (.ptr t 0))).all Option.isNone = true := by
  simp only [writes, hf] at hw
  cases caps with
  | nil =>
    dsimp only at hw
    split at hw
    · split at hw
      · rw [Bool.or_eq_false_iff] at hw
        rw [List.map_nil, List.append_nil]; simpa using hw.2
      · rw [List.map_nil, List.append_nil]; simpa using hw
    · rename_i hq
      simp [hq, tsOf, uniq]
  | cons c cs => simpa using hw
theorem wp_value {o : Oper} {K : Act → World → Prop} {Q : Exit → Act → World → Prop} {z : Value} (h : (execOp a.eval o).run P w = .ok (.value z) w') (hk : K (a.put o.dst z) w') : o.wp P a w K Q := by
  unfold Oper.wp; rw [h]; exact hk
theorem wp_skipped {o : Oper} {K : Act → World → Prop} {Q : Exit → Act → World → Prop} (h : (execOp a.eval o).run P w = .ok .skip w') (hk : K (a.put o.dst undef) w') : o.wp P a w K Q := by
  unfold Oper.wp; rw [h]; exact hk

theorem fin_undef (h : Rels T w0 S0 F st a w) {d : Option Nat} (hd : ∀ k, d = some k → k < st.s.length) : Rels T w0 S0 F (fin st d fun _ => .undef) (a.put d undef) w := by
  obtain ⟨S, bx, ph, h1, h2⟩ := h
  exact fin_sound h1 hd (fun _ _ _ _ _ _ _ _ => trivial)

theorem mapOp_sound (hT : TOk P T) (h : Rel T w0 S0 F st a w S bx ph) (hsp : st.r.getD st.s.length .none = .none) {o : Oper} {vf : Nat → V} {st1 : St} {obl : List Prop}
    (hp : mapOp T (std P T) st o = some (vf, st1, obl)) (ho : ∀ p ∈ obl, p) (hd : ∀ k, o.dst = some k → k < st.s.length) {K : Act → World → Prop} {Q : Exit → Act → World → Prop}
    (hK : ∀ z w', Rels T w0 S0 F (fin st1 o.dst vf) (a.put o.dst z) w' → (writes st o = false → Old w w') → K (a.put o.dst z) w') : o.wp P a w K Q := by
  obtain ⟨dst, op, type, pos, after, guard⟩ := o
  dsimp only at hK hd ⊢
  unfold mapOp at hp
  dsimp only at hp
  split at hp
  · rename_i t
    split at hp
    · rename_i kk te hty
      cases hp
      obtain ⟨h1, h2⟩ := pushOwn (w := w.alloc (.map #[] 0)) (h.world (Chg.alloc (fun _ => False) w _) (fun _ _ hf => hf.elim)) hsp (rc := .map kk GM.new) (z := .of (.map (some w.heap.size))) ⟨_, rfl, #[], by show (w.heap.push _)[_]? = _; simp [GM.new], rfl, rfl, fun i hi => absurd hi (by simp), fun k hk => absurd hk (by simp [GM.new])⟩ (fun b hb => by
        obtain rfl : w.heap.size = b := Option.some.inj hb
        exact ⟨fun hs => absurd (h.heap.low.1 _ hs) (by omega), by simp, fun t κ ho => absurd (h.heap.free _ _ _ ho).2 (by omega), .inl h.chg.size⟩)
      refine wp_value (z := .map (some w.heap.size)) (w' := w.alloc (.map #[] 0)) ?_ (hK _ _ ?_ fun _ => old_alloc _)
      · simp [execOp, Instr.makeMap]
      · refine fin_sound h1 hd (fun k bx' ph' hk e1 e2 e3 hh => ?_)
        refine ⟨kk, GM.new, ?_, ?_⟩
        · have : (name { st with r := pushR st.r st.s.length (.map kk GM.new) } k).r.getD k .none = _ := e3
          show ((name { st with r := pushR st.r st.s.length (.map kk GM.new) } k).r.getD k .none).row[0]? = _
          rw [this]
          show ((pushR st.r st.s.length (.map kk GM.new)).getD st.s.length .none).row[0]? = _
          rw [h2]; rfl
        · rw [e1 0]; simp [phPush]; rfl
    · cases hp
  · rename_i t m k v
    split at hp
    · rename_i kk te t' o' k' x hty hm hkey hv
      split at hp
      · rename_i c hst
        split at hp
        · rename_i kk' m' hmap
          split at hp
          · rename_i hcond
            obtain ⟨rfl, hok, _⟩ := hcond
            cases hp
            have hmr := ev_sound h m
            rw [hm] at hmr
            obtain ⟨kk2, m2, _, hmv⟩ := hmr
            have hvr := ev_sound h v
            rw [hv] at hvr
            obtain ⟨S', hf0, hcr⟩ := freezeAll_sound (P := P) [x] h
            have hf : Frozen T w0 S0 F st (freezeX T (std P T) st x) a w S S' bx ph := hf0
            have hcx := hcr x (List.mem_singleton.2 rfl) _ _ hvr hst
            have hc := mapAt_eq hmap
            obtain ⟨b, q1, es, q2, q3, q4, q5, q6⟩ := hf.rel.heap.cell hc
            obtain ⟨es', r1, r2⟩ := run_mapUpdate (P := P) hT hty q2 ⟨q3, q4, q5, q6⟩ hok hcx
            have h3 := map_write hf.rel hc q1 q2 r2
            refine wp_skipped (w' := _) ?_ (hK _ _ (fin_undef ⟨S', bx, ph, h3, ?_⟩ (fun k hk => ?_)) (fun hw => by simp [writes] at hw))
            · have e1 := keyOf_sound (ev_sound h k) hkey
              simp only [execOp, hmv, q1, e1, Sem.run_bind, r1]; rfl
            · have hl : (freezeX T (std P T) st x).s.length = st.s.length := hf.len
              have hz : ((freezeX T (std P T) st x).r.getD st.s.length .none) = .none := hf.spare _ hsp
              show (setMap (freezeX T (std P T) st x).r t' o' _ _).getD (freezeX T (std P T) st x).s.length .none = .none
              rw [hl]
              unfold setMap
              rw [getD_setCell]
              split
              · rename_i e1; subst e1; rw [hz]; rfl
              · exact hz
            · show k < (freezeX T (std P T) st x).s.length
              rw [show (freezeX T (std P T) st x).s.length = st.s.length from hf.len]; exact hd k hk
          · cases hp
        · cases hp
      · cases hp
    · cases hp
  · rename_i t m k
    split at hp
    · rename_i kk te t' o' k' hty hm hkey
      split at hp
      · rename_i kk' m' z kd hmap hz hkd
        split at hp
        · rename_i hcond
          obtain ⟨rfl, hok⟩ := hcond
          cases hp
          have hmr := ev_sound h m
          rw [hm] at hmr
          obtain ⟨kk2, m2, _, hmv⟩ := hmr
          have hc := mapAt_eq hmap
          obtain ⟨b, q1, es, q2, q3, q4, q5, q6⟩ := h.heap.cell hc
          obtain ⟨es', v, r1, r2, r3⟩ := run_mapEntry (P := P) hT hty q2 ⟨q3, q4, q5, q6⟩ hok (zeroC_sound hz)
          have h3 := map_write h hc q1 q2 r2
          have hobl : okK kd (mgetC m'.ks m'.vs k' z) := ho _ (List.mem_cons_self ..)
          have hsp3 : (setMap st.r t' o' kk (GM.ent m' k' z)).getD st.s.length .none = .none := by
            unfold setMap
            rw [getD_setCell]
            split
            · rename_i e1; subst e1; rw [hsp]; rfl
            · exact hsp
          refine wp_value (z := .tuple #[v, .int .i64 ((m'.ent k' z).stampOf k')]) ?_ (hK _ _ (fin_sound h3 hd (fun k bx' ph' hk e1 e2 e3 hh => ?_)) (fun hw => by simp [writes] at hw))
          · have e1 := keyOf_sound (ev_sound h k) hkey
            simp only [execOp, hmv, q1, e1, Sem.run_bind, r1]; rfl
          · refine ⟨_, rfl, rfl, fun i h1 h2 => ?_⟩
            match i, h1 with
            | 0, _ =>
              refine ⟨_, rfl, shape_sound (P := P) ?_ hobl⟩
              have hog : owns st.r bx ph t' (some o') b := own_blk hc (by show ownB (ph t' o').v = _; rw [q1]; rfl)
              exact r3.frame (h.heap.write hog (setBlk_chg w b _)).1 (fun _ h => h)
            | 1, _ => exact ⟨_, rfl, CRep.val rfl⟩
        · cases hp
      · cases hp
    · cases hp
  · rename_i t m n v
    split at hp
    · rename_i kk te t' o' n' v' hty hm hn hv
      split at hp
      · rename_i kk' m' hmap
        split at hp
        · rename_i hkk
          subst hkk
          cases hp
          have hmr := ev_sound h m
          rw [hm] at hmr
          obtain ⟨kk2, m2, _, hmv⟩ := hmr
          have hnr := ev_sound h n
          rw [hn] at hnr
          have hvr := ev_sound h v
          rw [hv] at hvr
          have hc := mapAt_eq hmap
          obtain ⟨b, q1, es, q2, q3, q4, q5, q6⟩ := h.heap.cell hc
          obtain ⟨es', r1, r2⟩ := run_entryStore (P := P) (t := t) q2 ⟨q3, q4, q5, q6⟩ (ho _ (List.mem_cons_self ..)) hvr
          have h3 := map_write h hc q1 q2 r2
          refine wp_skipped (w' := _) ?_ (hK _ _ (fin_undef ⟨S, bx, ph, h3, ?_⟩ hd) (fun hw => by simp [writes] at hw))
          · simp only [execOp, hmv, q1, (crep_val hnr).1, Sem.run_bind, r1]; rfl
          · show (setMap st.r t' o' _ _).getD st.s.length .none = .none
            unfold setMap
            rw [getD_setCell]
            split
            · rename_i e1; subst e1; rw [hsp]; rfl
            · exact hsp
        · cases hp
      · cases hp
    · cases hp
  · cases hp
theorem settle_sound (h : Rel T w0 S0 F st a w S bx ph) (hsp : st.r.getD st.s.length .none = .none) {vs : Array Value} {xs xs0 : List X} {st0 : St} (hx : XsRep T w S st.r bx ph vs xs) (hs : settle T (std P T) st xs = some (st0, xs0)) :
    ∃ S', Rel T w0 S0 F st0 a w S' bx ph ∧ XsRep T w S' st0.r bx ph vs xs0 ∧ xs0.length = xs.length ∧ st0.s.length = st.s.length ∧ st0.r.getD st.s.length .none = .none := by
  unfold settle at hs
  split at hs
  · split at hs
    · rename_i cs hcs
      cases hs
      obtain ⟨S', hf, hcr⟩ := freezeAll_sound (P := P) xs h
      have h2 := optAll_some _ _ hcs
      have hlen : xs.length = cs.length := by have := congrArg List.length h2; simpa using this
      refine ⟨S', hf.rel, ⟨by rw [hx.1]; simp [hlen], fun k hk hk2 => ?_⟩, by simp [hlen], hf.len, hf.spare _ hsp⟩
      have hk3 : k < cs.length := by simpa using hk
      have hk4 : k < xs.length := by omega
      have h3 := congrArg (fun l => l[k]?) h2
      simp only [List.getElem?_map, List.getElem?_eq_getElem hk3, List.getElem?_eq_getElem hk4, Option.map_some, Option.some.injEq] at h3
      rw [List.getElem_map]
      exact cX_sound (hcr xs[k] (List.getElem_mem hk4) _ _ (hx.2 k hk4 hk2) h3)
    · cases hs
  · cases hs
    exact ⟨S, h, hx, rfl, rfl, hsp⟩
theorem runOp0_sound (hT : TOk P T) (h : Rel T w0 S0 F st a w S bx ph) (hsp : st.r.getD st.s.length .none = .none) {o : Oper} {cr : Option (RV × List Root)} {vf : Nat → V} {st1 : St} {obl : List Prop}
    (hp : runOp0 T (std P T) st o cr = some (vf, st1, obl)) (ho : ∀ p ∈ obl, p) (hd : ∀ k, o.dst = some k → k < st.s.length) {K : Act → World → Prop} {Q : Exit → Act → World → Prop}
    (hK : ∀ z w', Rels T w0 S0 F (fin st1 o.dst vf) (a.put o.dst z) w' → (writes st o = false → Old w w') → K (a.put o.dst z) w') : o.wp P a w K Q := by
  obtain ⟨dst, op, type, pos, after, guard⟩ := o
  unfold runOp0 at hp
  dsimp only at hp hK hd ⊢
  split at hp
  · rename_i e
    split at hp
    · rename_i ti hti
      obtain ⟨_, i, hi, _, _, hz, _⟩ := hT e ti hti
      split at hp
      · cases hp
      · rename_i hne
        split at hp
        · rename_i st2 hpu
          split at hp
          · cases hp
          rename_i hme
          cases hp
          have hx : cellsOfV (constV ti.zero) ≠ [] := hne
          have := box_core h hsp (const_sound ti.zero) hx hpu (Bool.eq_false_iff.2 hme) hd e
          refine wp_value (z := .pointer (some ⟨w.heap.size, 0, none⟩)) (w' := w.alloc (.cells ti.zero.cells e)) ?_ (hK _ _ this fun _ => old_alloc _)
          simp [execOp, Instr.alloc, zeroValue, typeInfo, hi, hz, newVar, newRow]
        · cases hp
    · cases hp
  · rename_i e x
    split at hp
    · cases hp
    · rename_i hne
      split at hp
      · rename_i st2 hpu
        split at hp
        · cases hp
        rename_i hme
        cases hp
        have := box_core h hsp (ev_sound h x) hne hpu (Bool.eq_false_iff.2 hme) hd e
        refine wp_value (z := .pointer (some ⟨w.heap.size, 0, none⟩)) (w' := w.alloc (.cells (a.eval x).cells e)) ?_ (hK _ _ this fun _ => old_alloc _)
        simp [execOp, Instr.box, newVar, newRow]
      · cases hp
  · rename_i t len parts
    split at hp
    · rename_i ti hti
      split at hp
      · rename_i e hde
        split at hp
        · rename_i te hte
          split at hp
          · cases hp
          · rename_i hc
            simp only [not_or, Bool.not_eq_true, Bool.not_eq_false] at hc
            obtain ⟨c1, c2, c3, c4⟩ := hc
            split at hp
            · rename_i cs hcs
              cases hp
              have hd' : descOf T t = .slice e := by unfold descOf; rw [hti]; exact hde
              obtain ⟨z, w', r1, r2, r3⟩ := buildSlice_sound hT h hsp hd' hte (by simpa using c1) (fun p hp => by
                have := List.all_eq_true.1 (by simpa using c2 : (parts.toList.map fun p => cellsOfV (ev st.s p.2)).all (fun u => u.length == te.size) = true) _ (List.mem_map.2 ⟨p, hp, rfl⟩)
                simpa using this) (by omega) c4 hcs hd
              refine wp_value (z := z) (w' := w') ?_ (hK _ _ r2 fun _ => r3)
              simp only [execOp, Sem.run_bind, r1]; rfl
            · cases hp
        · cases hp
      · cases hp
    · cases hp
  · rename_i t l c
    split at hp
    · rename_i ti li ci hti hl hc
      split at hp
      · rename_i e hde
        split at hp
        · rename_i te hte
          split at hp
          · rename_i zs hzs
            split at hp
            · cases hp
            · rename_i hcc
              simp only [not_or, ne_eq, Decidable.not_not] at hcc
              obtain ⟨c1, c2, c3⟩ := hcc
              cases hp
              have hd' : descOf T t = .slice e := by unfold descOf; rw [hti]; exact hde
              obtain ⟨kl, hkl⟩ := num_sound (ev_sound h l) hl
              obtain ⟨kc, hkc⟩ := num_sound (ev_sound h c) hc
              obtain ⟨z, w', r1, r2, r3⟩ := makeSlice_sound (kl := kl) (kc := kc) hT h hsp hd' hte hzs c1 c2 c3 (ho _ (List.mem_cons_self ..)) (ho _ (List.mem_cons_of_mem _ (List.mem_cons_self ..))) (ho _ (List.mem_cons_of_mem _ (List.mem_cons_of_mem _ (List.mem_cons_self ..)))) hd
              refine wp_value (z := z) (w' := w') ?_ (hK _ _ r2 fun _ => r3)
              simp only [execOp, hkl, hkc, Sem.run_bind, r1]; rfl
          · cases hp
        · cases hp
      · cases hp
    · cases hp
  · rename_i t x y
    split at hp
    · rename_i ti hti
      split at hp
      · cases hp
      · rename_i hc
        simp only [not_or, ne_eq, Decidable.not_not] at hc
        obtain ⟨c1, c2⟩ := hc
        have hne : cellsOfV (ev st.s y) ≠ [] := fun h0 => by rw [h0] at c1; exact c2 c1.symm
        have hxs := cellsOf_sound h.heap (ev_sound h y) hne
        have hux := ev_sound h x
        split at hp
        · split at hp
          · rename_i st0 xs0 hset
            obtain ⟨S', h', hxs', l1, l2, hsp'⟩ := settle_sound (P := P) h hsp hxs hset
            split at hp
            · rename_i t' o hx
              have hux' := ev_sound h' x
              rw [hx] at hux'
              split at hp
              · rename_i st2 hpu
                split at hp
                · rename_i row hrow
                  split at hp
                  · rename_i hc3
                    cases hp
                    obtain ⟨w', r1, r2⟩ := box_store_sound hT h' (by rw [l2]; exact hsp') hti hux' hxs' (by rw [l1]; exact c1) hpu hrow hc3.1 hc3.2.1 hc3.2.2
                    refine wp_skipped (w' := w') ?_ (hK _ _ (fin_undef r2 (fun k hk => ?_)) (fun hw => by simp [writes] at hw))
                    · simp only [execOp, Sem.run_bind, r1]; rfl
                    · obtain ⟨_, _, _, q, _⟩ := r2
                      have := q.size
                      rw [← this, h.size]; exact hd k hk
                  · cases hp
                · cases hp
              · cases hp
            · cases hp
          · cases hp
        · rename_i t' o k hx
          rw [hx] at hux
          split at hp
          · rename_i cs hcs
            split at hp
            · rename_i e n cells hown
              cases hp
              have hle : plus (std P T) k ti.size ≤ cells.length := ho _ (List.mem_cons_self ..)
              rw [plus_std] at hle
              obtain ⟨w', r1, S', r2⟩ := eptr_store_sound hT h hti hux hxs c1 hcs hown hle
              have hlen : ((cellsOfV (ev st.s y)).foldl (freezeX T (std P T)) st).s.length = st.s.length := by
                have := r2.size
                rw [h.size] at this
                exact this.symm
              refine wp_skipped (w' := w') ?_ (hK _ _ (fin_undef ⟨S', bx, ph, r2, ?_⟩ (fun k hk => ?_)) (fun hw => by simp [writes] at hw))
              · simp only [execOp, Sem.run_bind, r1]; rfl
              · obtain ⟨S2, hf, _⟩ := freezeAll_frz (P := P) (cellsOfV (ev st.s y)) st S h
                show (setCellR _ t' o _).getD ((cellsOfV (ev st.s y)).foldl (freezeX T (std P T)) st).s.length .none = .none
                rw [getD_setCell, hlen]
                split
                · rename_i e1; subst e1; rw [hf.spare _ hsp]; rfl
                · exact hf.spare _ hsp
              · show k < ((cellsOfV (ev st.s y)).foldl (freezeX T (std P T)) st).s.length
                rw [hlen]; exact hd k hk
            · cases hp
          · cases hp
        · cases hp
    · cases hp
  · rename_i src d2 x
    split at hp
    · rename_i td s htd hx hsrc
      split at hp
      · rename_i e hde
        split at hp
        · rename_i hu8
          cases hp
          have hux := ev_sound h x
          rw [hx] at hux
          have hv := (crep_val hux).1
          have hd' : descOf T d2 = .slice e := by unfold descOf; rw [htd]; exact hde
          obtain ⟨z, w', r1, r2, r3⟩ := bytes_sound hT h hsp (s := s) (desc_of hT hsrc (by simp)) hd' hu8 hd
          refine wp_value (z := z) (w' := w') ?_ (hK _ _ r2 fun _ => r3)
          simp only [execOp, hv, Sem.run_bind, r1]; rfl
        · cases hp
      · cases hp
    · cases hp
  · rename_i args ats
    split at hp
    · rename_i x y t u hax hat
      split at hp
      · rename_i htu
        subst htu
        obtain ⟨z, w', r1, r2, r3⟩ := append_sound (ty := type) hT h hsp (ev_sound h x) (ev_sound h y) hp ho hd
        obtain ⟨args⟩ := args
        obtain ⟨ats⟩ := ats
        simp only at hax hat
        subst hax; subst hat
        refine wp_value (z := z) (w' := w') ?_ (hK _ _ r2 fun hw => ?_)
        · simp [execOp, resolve, invoke, builtin, r1]
        · refine r3 ?_
          simp only [writes] at hw
          split at hw
          · rename_i c hc; exact ⟨c, hc⟩
          · cases hw
      · unfold appZ at hp
        split at hp
        · rename_i kq n e te hdn hbase hn hel
          split at hp
          · rename_i zs hzs
            split at hp
            · cases hp
            · rename_i hbad
              cases hp
              have hx := ev_sound h x
              rw [hbase] at hx
              obtain ⟨kn, hy⟩ := num_sound (ev_sound h y) hn
              have h0 : (1 : Int) ≤ n := ho _ (List.mem_cons_self ..)
              have h1 : n.toNat * te.bytes ≤ 140737488355328 := ho _ (List.mem_cons_of_mem _ (List.mem_cons_self ..))
              obtain ⟨_, hte, _⟩ := elemOf_desc hT hel
              have hd1 : descOf T t = .slice e := by
                unfold elemOf at hel
                split at hel
                · rename_i e' hd'
                  split at hel
                  · cases hel; exact hd'
                  · cases hel
                · cases hel
              obtain ⟨z, w', r1, r2, r3⟩ := zeros_sound (ty := type) (kn := kn) hT h hsp hd1 hdn hte hzs (by
                by_cases q : zs.length = te.size
                · exact q
                · exact absurd (.inl q) hbad) (fun q => hbad (.inr (.inl q))) (fun q => hbad (.inr (.inr q))) h0 h1 hd
              obtain ⟨args⟩ := args
              obtain ⟨ats⟩ := ats
              simp only at hax hat
              subst hax; subst hat
              refine wp_value (z := z) (w' := w') ?_ (hK _ _ r2 fun _ => r3)
              have hxv := crep_nil hx
              simp [execOp, resolve, invoke, builtin, hxv, hy, r1]
          · cases hp
        · cases hp
    · cases hp
  · rename_i args ats
    split at hp
    · rename_i x y t u hax hat
      split at hp
      · rename_i htu
        subst htu
        obtain ⟨z, w', r1, r2⟩ := copy_sound hT h (ev_sound h x) (ev_sound h y) hp ho hsp hd type
        obtain ⟨args⟩ := args
        obtain ⟨ats⟩ := ats
        simp only at hax hat
        subst hax; subst hat
        refine wp_value (z := z) (w' := w') ?_ (hK _ _ r2 fun hw => by simp [writes] at hw)
        simp [execOp, resolve, invoke, builtin, r1]
      · cases hp
    · cases hp
  · rename_i f args ats
    split at hp
    · rename_i f' caps cr' hf
      have huf := ev_sound h f
      rw [hf] at huf
      obtain ⟨hfv, hcaps⟩ := huf
      have gen : anyCall T (std P T) st f' (args.toList.map (ev st.s) ++ caps.map fun t => .one (.ptr t 0)) cr' = some (vf, st1, obl) → (writes st ⟨dst, .call { callee := .value f, args := args, argTypes := ats }, type, pos, after, guard⟩ = false → (tsOf (args.toList.map (ev st.s) ++ caps.map fun t => .one (.ptr t 0))).all Option.isNone = true) →
          Oper.wp P ⟨dst, .call { callee := .value f, args := args, argTypes := ats }, type, pos, after, guard⟩ a w K Q := fun hp hwr => by
          have hvals : ∀ k (h1 : k < (args.toList.map (ev st.s) ++ caps.map fun t => V.one (.ptr t 0)).length) (h2 : k < (args.toList.map a.eval ++ caps.map fun t => Value.pointer (some ⟨bx t, 0, none⟩)).length),
              VRep T w S st.r bx ph (args.toList.map a.eval ++ caps.map fun t => Value.pointer (some ⟨bx t, 0, none⟩))[k] (args.toList.map (ev st.s) ++ caps.map fun t => V.one (.ptr t 0))[k] := fun k h1 h2 => by
            by_cases hk : k < args.toList.length
            · rw [List.getElem_append_left (by simpa using hk), List.getElem_append_left (by simpa using hk)]
              exact vals_of h k (by simpa using hk) (by simpa using hk)
            · rw [List.getElem_append_right (by simpa using hk), List.getElem_append_right (by simpa using hk)]
              simp only [List.getElem_map, List.length_map]
              have hk2 : k - args.toList.length < caps.length := by simp only [List.length_append, List.length_map] at h1; omega
              obtain ⟨row, q1, q2⟩ := hcaps _ (List.getElem_mem hk2)
              exact ⟨row, q1, q2, rfl⟩
          obtain ⟨r1, r2⟩ := anyCall_sound h hsp (vs := args.toList.map a.eval ++ caps.map fun t => Value.pointer (some ⟨bx t, 0, none⟩)) (by simp) hvals hp ho hd
          unfold Oper.wp
          have hrun : (execOp a.eval ⟨dst, .call { callee := .value f, args := args, argTypes := ats }, type, pos, after, guard⟩).run P w = .ok (.enter f' (args.toList.map a.eval ++ caps.map fun t => Value.pointer (some ⟨bx t, 0, none⟩)).toArray) w := by
            have := r1 (args.map a.eval ++ (caps.map fun t => Value.pointer (some ⟨bx t, 0, none⟩)).toArray) w
            have e1 : args.map a.eval ++ (caps.map fun t => Value.pointer (some ⟨bx t, 0, none⟩)).toArray = (args.toList.map a.eval ++ caps.map fun t => Value.pointer (some ⟨bx t, 0, none⟩)).toArray := Array.toList_inj.1 (by simp)
            rw [e1] at this
            simp only [execOp, resolve, Deferred.ofValue, hfv, invoke, Sem.run_bind, Sem.run_pure, Result.andThen_ok]
            simpa [e1] using this
          rw [hrun]
          refine r2.mono fun e w' ⟨z, he, h1, h2⟩ => ?_
          subst he
          exact hK z w' h1 fun hw => h2 (hwr hw)
      split at hp
      · rename_i x rest hxs
        split at hp
        · rename_i r hoc
          cases hp
          obtain ⟨args⟩ := args
          simp only at hxs
          subst hxs
          obtain ⟨r1, r2⟩ := ownCall_sound h hsp (v := a.eval x) (vs := rest.map a.eval) (ev_sound h x) (by simp) (vals_of h) hoc ho hd
          unfold Oper.wp
          have hrun : (execOp a.eval ⟨dst, .call { callee := .value f, args := ⟨x :: rest⟩, argTypes := ats }, type, pos, after, guard⟩).run P w = .ok (.enter f' (a.eval x :: rest.map a.eval).toArray) w := by
            have := r1 (a.eval x :: rest.map a.eval).toArray w
            simp only [execOp, resolve, Deferred.ofValue, hfv, invoke, Sem.run_bind, Sem.run_pure, Result.andThen_ok]
            simpa using this
          rw [hrun]
          refine r2.mono fun e w' ⟨z, he, h1⟩ => ?_
          subst he
          refine hK z w' h1 fun hw => ?_
          exfalso
          unfold ownCall at hoc
          split at hoc
          · rename_i hx _ h3
            simp only [writes, hf, hx] at hw
            rw [h3] at hw
            simp at hw
          · cases hoc
        · exact gen hp (writes_call hf)
      · exact gen hp (writes_call hf)
    · cases hp
  · exact mapOp_sound hT h hsp hp ho hd hK
theorem meOp_sound (hT : TOk P T) (h : Rel T w0 S0 F st a w S bx ph) (hsp : st.r.getD st.s.length .none = .none) {o : Oper} {cr : Option (RV × List Root)} {vf : Nat → V} {st1 : St} {obl : List Prop}
    (hp : meOp T (std P T) st o cr = some (vf, st1, obl)) (ho : ∀ p ∈ obl, p) (hd : ∀ k, o.dst = some k → k < st.s.length) {K : Act → World → Prop} {Q : Exit → Act → World → Prop}
    (hK : ∀ z w', Rels T w0 S0 F (fin st1 o.dst vf) (a.put o.dst z) w' → (writes st o = false → Old w w') → K (a.put o.dst z) w') : o.wp P a w K Q := by
  obtain ⟨dst, op, type, pos, after, guard⟩ := o
  unfold meOp at hp
  dsimp only at hp hK hd ⊢
  split at hp
  · rename_i t x y
    split at hp
    · rename_i ti t' o g u hti hx hy
      split at hp
      · rename_i row hrow
        split at hp
        · rename_i hc
          obtain ⟨rfl, c2, c3, c4⟩ := hc
          cases hp
          have hux := ev_sound h x
          have huy := ev_sound h y
          rw [hx] at hux
          rw [hy] at huy
          obtain ⟨w', r1, r2⟩ := me_store_sound hT h hsp hti c2 hux huy hrow c3 c4
          refine wp_skipped (w' := w') ?_ (hK _ _ (fin_undef r2 (fun k hk => ?_)) (fun hw => by simp [writes] at hw))
          · simp only [execOp, Sem.run_bind, r1]; rfl
          · obtain ⟨_, _, _, q, _⟩ := r2
            have := q.size
            rw [← this, h.size]; exact hd k hk
        · cases hp
      · cases hp
    · cases hp
  · rename_i f args ats
    split at hp
    · rename_i g t cr' hf
      have huf := ev_sound h f
      rw [hf] at huf
      obtain ⟨⟨row, q1, q2⟩, hfv⟩ := huf
      have hvals : ∀ k (h1 : k < (V.one (.ptr t 0) :: args.toList.map (ev st.s)).length) (h2 : k < (Value.pointer (some ⟨bx t, 0, none⟩) :: args.toList.map a.eval).length),
          VRep T w S st.r bx ph (Value.pointer (some ⟨bx t, 0, none⟩) :: args.toList.map a.eval)[k] (V.one (.ptr t 0) :: args.toList.map (ev st.s))[k] := fun k h1 h2 => by
        cases k with
        | zero => exact ⟨row, q1, q2, rfl⟩
        | succ k => exact vals_of h k (by simpa using h1) (by simpa using h2)
      obtain ⟨r1, r2⟩ := anyCall_sound h hsp (vs := Value.pointer (some ⟨bx t, 0, none⟩) :: args.toList.map a.eval) (by simp) hvals hp ho hd
      unfold Oper.wp
      have hrun : (execOp a.eval ⟨dst, .call { callee := .value f, args := args, argTypes := ats }, type, pos, after, guard⟩).run P w = .ok (.enter g (Value.pointer (some ⟨bx t, 0, none⟩) :: args.toList.map a.eval).toArray) w := by
        have := r1 (#[Value.pointer (some ⟨bx t, 0, none⟩)] ++ args.map a.eval) w
        have e1 : #[Value.pointer (some ⟨bx t, 0, none⟩)] ++ args.map a.eval = (Value.pointer (some ⟨bx t, 0, none⟩) :: args.toList.map a.eval).toArray := Array.toList_inj.1 (by simp)
        rw [e1] at this
        simp only [execOp, resolve, Deferred.ofValue, hfv, meV, invoke, Sem.run_bind, Sem.run_pure, Result.andThen_ok]
        simpa [e1] using this
      rw [hrun]
      refine r2.mono fun e w' ⟨z, he, h1, h2⟩ => ?_
      subst he
      exact hK z w' h1 fun hw => by simp [writes, hf] at hw
    · cases hp
  · cases hp
theorem treeOp_sound (hT : TOk P T) (h : Rel T w0 S0 F st a w S bx ph) (hsp : st.r.getD st.s.length .none = .none) {o : Oper} {vf : Nat → V} {st1 : St} {obl : List Prop}
    (hp : treeOp T (std P T) st o = some (vf, st1, obl)) (ho : ∀ p ∈ obl, p) (hd : ∀ k, o.dst = some k → k < st.s.length) {K : Act → World → Prop} {Q : Exit → Act → World → Prop}
    (hK : ∀ z w', Rels T w0 S0 F (fin st1 o.dst vf) (a.put o.dst z) w' → (writes st o = false → Old w w') → K (a.put o.dst z) w') : o.wp P a w K Q := by
  obtain ⟨dst, op, type, pos, after, guard⟩ := o
  unfold treeOp at hp
  dsimp only at hp hK hd ⊢
  split at hp
  · rename_i t len parts
    split at hp
    · rename_i e te hel
      split at hp
      · cases hp
      · split at hp
        · cases hp
        · rename_i hc
          simp only [not_or, Bool.not_eq_true, Bool.not_eq_false] at hc
          obtain ⟨c1, c2, c3, c4⟩ := hc
          split at hp
          · rename_i st2 hpu
            split at hp
            · rename_i cs hrow
              cases hp
              obtain ⟨_, hte, _⟩ := elemOf_desc hT hel
              have hd1 : descOf T t = .slice e := by
                unfold elemOf at hel
                split at hel
                · rename_i e' hd'
                  split at hel
                  · cases hel; exact hd'
                  · cases hel
                · cases hel
              obtain ⟨z, w', r1, r2, r3⟩ := treeBuild_sound hT h hsp hd1 hte (by simpa using c1) (fun p hp => by
                have := List.all_eq_true.1 (by simpa using c2 : (parts.toList.map fun p => cellsOfV (ev st.s p.2)).all (fun u => u.length == te.size) = true) _ (List.mem_map.2 ⟨p, hp, rfl⟩)
                simpa using this) (by omega) c4 hpu hrow hd
              refine wp_value (z := z) (w' := w') ?_ (hK _ _ r2 fun _ => r3)
              simp only [execOp, Sem.run_bind, r1]; rfl
            · cases hp
          · cases hp
    · cases hp
  · rename_i t l c
    split at hp
    · rename_i e te li ci hel hl hc
      split at hp
      · cases hp
      · split at hp
        · rename_i zs hzs
          split at hp
          · cases hp
          · rename_i hcc
            simp only [not_or, ne_eq, Decidable.not_not] at hcc
            obtain ⟨c1, c2, c3⟩ := hcc
            split at hp
            · rename_i zs' hrow
              cases hp
              obtain ⟨_, hte, _⟩ := elemOf_desc hT hel
              have hd1 : descOf T t = .slice e := by
                unfold elemOf at hel
                split at hel
                · rename_i e' hd'
                  split at hel
                  · cases hel; exact hd'
                  · cases hel
                · cases hel
              obtain ⟨kl, hkl⟩ := num_sound (ev_sound h l) hl
              obtain ⟨kc, hkc⟩ := num_sound (ev_sound h c) hc
              obtain ⟨z, w', r1, r2, r3⟩ := treeMake_sound (kl := kl) (kc := kc) hT h hsp hd1 hte hzs c1 c2 c3 hrow (ho _ (List.mem_cons_self ..)) (ho _ (List.mem_cons_of_mem _ (List.mem_cons_self ..))) (ho _ (List.mem_cons_of_mem _ (List.mem_cons_of_mem _ (List.mem_cons_self ..)))) hd
              refine wp_value (z := z) (w' := w') ?_ (hK _ _ r2 fun _ => r3)
              simp only [execOp, hkl, hkc, Sem.run_bind, r1]; rfl
            · cases hp
        · cases hp
    · cases hp
  · rename_i t x y
    split at hp
    · rename_i ti t' o p k off hti hx
      split at hp
      · cases hp
      · rename_i hc
        simp only [not_or, ne_eq, Decidable.not_not] at hc
        obtain ⟨c1, c2, c3⟩ := hc
        split at hp
        · rename_i st2 hpu
          split at hp
          · rename_i sh c hh e ks n cells htree hnode
            split at hp
            · cases hp
            · rename_i hfit
              split at hp
              · rename_i cs hrow
                split at hp
                · rename_i obl2 hobl
                  cases hp
                  have hne : cellsOfV (ev st.s y) ≠ [] := fun h0 => by rw [h0] at c1; exact c2 c1.symm
                  have hxs := cellsOf_sound h.heap (ev_sound h y) hne
                  have hux := ev_sound h x
                  rw [hx] at hux
                  have hle : plus (std P T) k ti.size ≤ cells.length := ho _ (List.mem_cons_self ..)
                  rw [plus_std] at hle
                  obtain ⟨w', r1, r2⟩ := treeStore_sound hT h hsp hti hux hxs c1 c2 c3 hpu htree hnode (by omega) hrow hobl (fun q hq => ho q (List.mem_cons_of_mem _ hq)) hle
                  have e1 : updJ (std P T) (fun nd => .sl (lenJ (std P T) nd) ((std P T).set (clsJ (std P T) nd) k cs)) c p = updC (fun nd => .sl (gn nd) (setC (gc nd) k cs)) c p := by
                    rw [updJ_std]
                    congr 1
                    funext nd
                    rw [lenJ_std, clsJ_std]; rfl
                  rw [e1] at hK
                  refine wp_skipped (w' := w') ?_ (hK _ _ (fin_undef r2 (fun k hk => ?_)) (fun hw => by simp [writes] at hw))
                  · simp only [execOp, Sem.run_bind, r1]; rfl
                  · obtain ⟨_, _, _, q, _⟩ := r2
                    have := q.size
                    rw [← this, h.size]; exact hd k hk
                · cases hp
              · cases hp
          · cases hp
        · cases hp
    · cases hp
  · rename_i args ats
    split at hp
    · rename_i x y t u hax hat
      split at hp
      · rename_i htu
        subst htu
        obtain ⟨z, w', r1, r2, r3⟩ := treeApp_sound (ty := type) hT h hsp (ev_sound h x) (ev_sound h y) hp ho hd
        obtain ⟨args⟩ := args
        obtain ⟨ats⟩ := ats
        simp only at hax hat
        subst hax; subst hat
        refine wp_value (z := z) (w' := w') ?_ (hK _ _ r2 fun hw => ?_)
        · simp [execOp, resolve, invoke, builtin, r1]
        · refine r3 ?_
          simp only [writes] at hw
          split at hw
          · rename_i c hc; exact ⟨c, hc⟩
          · cases hw
      · cases hp
    · cases hp
  · cases hp
theorem runOp_sound (hT : TOk P T) (h : Rel T w0 S0 F st a w S bx ph) (hsp : st.r.getD st.s.length .none = .none) {o : Oper} {cr : Option (RV × List Root)} {vf : Nat → V} {st1 : St} {obl : List Prop}
    (hp : runOp T (std P T) st o cr = some (vf, st1, obl)) (ho : ∀ p ∈ obl, p) (hd : ∀ k, o.dst = some k → k < st.s.length) {K : Act → World → Prop} {Q : Exit → Act → World → Prop}
    (hK : ∀ z w', Rels T w0 S0 F (fin st1 o.dst vf) (a.put o.dst z) w' → (writes st o = false → Old w w') → K (a.put o.dst z) w') : o.wp P a w K Q := by
  unfold runOp at hp
  split at hp
  · rename_i r hr
    cases hp
    exact treeOp_sound hT h hsp hr ho hd hK
  · split at hp
    · rename_i r hr
      cases hp
      exact meOp_sound hT h hsp hr ho hd hK
    · exact runOp0_sound hT h hsp hp ho hd hK
end Go.Proofs.Ytdmdcmhgfgookaa.A
