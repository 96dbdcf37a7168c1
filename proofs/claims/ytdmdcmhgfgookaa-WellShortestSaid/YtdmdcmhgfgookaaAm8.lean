/- The ghost machine, part 8: the operations that make and change nothing are sound. -/
import Derived.Test.YtdmdcmhgfgookaaAm7
import Derived.WalkLawsBesides
set_option linter.unusedSimpArgs false
set_option linter.unusedVariables false
set_option maxRecDepth 100000
set_option maxHeartbeats 4000000
namespace Go.Proofs.Ytdmdcmhgfgookaa.A
open Go Go.RowKit
variable {P : Program} {T : TT} {w w0 : World} {S S0 : Nat → Prop} {F : Fr} {bx : Nat → Nat} {ph : Nat → Nat → Pv} {a : Act} {st st' : St}

theorem crep_val {v u : Value} (h : CRep w S v (.val u)) : v = u ∧ plain u = true := by cases h with | val h => exact ⟨rfl, h⟩
theorem crep_nil {v : Value} (h : CRep w S v .nil) : v = .slice none 0 0 := by cases h; rfl
theorem plain_of_const {v : Value} (h : okConst v = true) : (v = .slice none 0 0 ∧ constC v = .nil) ∨ (plain v = true ∧ constC v = .val v) := by
  unfold okConst constC at *
  split at h
  · exact .inl ⟨rfl, rfl⟩
  · rename_i hn
    refine .inr ⟨h, ?_⟩
    rfl
theorem crep_const {v : Value} (h : okConst v = true) : CRep w S v (constC v) := by
  rcases plain_of_const h with ⟨h1, h2⟩ | ⟨h1, h2⟩
  · rw [h2, h1]; exact .nil
  · rw [h2]; exact .val h1
theorem const_sound {r : List Root} (v : Value) : VRep T w S r bx ph v (constV v) := by
  unfold constV
  split
  · rename_i cs
    split
    · rename_i h
      refine ⟨cs, rfl, by simp, fun k hk hk2 => ?_⟩
      simp only [List.getElem_map, Array.getElem_toList]
      have := List.all_eq_true.1 h cs[k] (by simp)
      exact crep_const this
    · trivial
  · split
    · rename_i h; exact crep_const h
    · trivial
theorem ev_sound (h : Rel T w0 S0 F st a w S bx ph) (x : Operand) : VRep T w S st.r bx ph (a.eval x) (ev st.s x) := by
  cases x with
  | tmp t =>
    show VRep T w S st.r bx ph (a.tmps.getD t undef) (st.s.getD t .undef)
    by_cases ht : t < st.s.length
    · exact h.slot t ht
    · have : st.s.getD t .undef = .undef := by rw [List.getD_eq_getElem?_getD, List.getElem?_eq_none (Nat.le_of_not_lt ht)]; rfl
      rw [this]; trivial
  | const v => exact const_sound v
  | global g => trivial
  | func f => exact ⟨rfl, fun t ht => by cases ht⟩

def Keep (S : Nat → Prop) (r : List Root) (bx : Nat → Nat) (ph : Nat → Nat → Pv) (w w' : World) : Prop :=
  (∀ b, S b → w'.heap[b]? = w.heap[b]?) ∧ ∀ t κ b, owns r bx ph t κ b → w'.heap[b]? = w.heap[b]?
theorem Keep.refl (S : Nat → Prop) (r : List Root) (bx : Nat → Nat) (ph : Nat → Nat → Pv) (w : World) : Keep S r bx ph w w := ⟨fun _ _ => rfl, fun _ _ _ _ => rfl⟩

theorem num_sound {r : List Root} {v : Value} {V : V} {i : Int} (h : VRep T w S r bx ph v V) (hi : num V = some i) : ∃ k, v = .int k i := by
  unfold num at hi
  split at hi
  · cases hi; exact ⟨_, (crep_val h).1⟩
  · cases hi

theorem desc_of (hT : TOk P T) {t : TypeId} {d : TypeDesc} (h : descOf T t = d) (hd : d ≠ .invalid) : P.underlying t = some d := by
  unfold descOf at h
  split at h
  · rename_i ti hti
    rw [← h]; exact (hT t ti hti).1
  · exact absurd h.symm hd
theorem bin_sound (hT : TOk P T) {r : List Root} {op : BinOp} {t : TypeId} {x y : Operand} {u v : Value} {U W V : V} {obl : List Prop} (hu : VRep T w S r bx ph u U) (hv : VRep T w S r bx ph v W)
    (hp : binV T (std P T) op t U W = some (V, obl)) (ho : ∀ p ∈ obl, p) :
    ∃ z, (∀ w' : World, (do eqGuard op t x y u v; binOp op t u v : Sem Value).run P w' = .ok z w') ∧ VRep T w S r bx ph z V := by
  unfold binV at hp
  split at hp
  · rename_i k a1 k' b1
    obtain ⟨rfl, _⟩ := crep_val hu
    obtain ⟨rfl, _⟩ := crep_val hv
    split at hp
    · simp only [Option.some.injEq, Prod.mk.injEq] at hp
      obtain ⟨rfl, rfl⟩ := hp
      refine ⟨_, fun w' => ?_, .val rfl⟩
      have h0 : (0 : Int) ≤ b1 := ho _ (List.mem_singleton.2 rfl)
      simp [eqGuard, binOp, Op.shift, show ¬ b1 < 0 by omega, std, arithI, go_sem]
    · simp only [Option.some.injEq, Prod.mk.injEq] at hp
      obtain ⟨rfl, rfl⟩ := hp
      refine ⟨_, fun w' => ?_, .val rfl⟩
      have h0 : (0 : Int) ≤ b1 := ho _ (List.mem_singleton.2 rfl)
      simp [eqGuard, binOp, Op.shift, show ¬ b1 < 0 by omega, std, arithI, go_sem]
    · split at hp
      · cases hp
      rename_i hk
      have hk : k = k' := by simpa using hk
      subst hk
      cases op <;> simp only [Option.some.injEq, Prod.mk.injEq, reduceCtorEq] at hp <;> obtain ⟨rfl, rfl⟩ := hp
      all_goals refine ⟨_, fun w' => ?_, .val rfl⟩
      all_goals first
        | (simp [eqGuard_at_int, binOp, Op.intArith, Op.intBits, Op.intCmp, std, arithI, cmpI, go_sem]; done)
        | (have h0 : b1 ≠ 0 := ho _ (List.mem_singleton.2 rfl)
           simp [eqGuard_at_int, binOp, Op.intDiv, h0, std, arithI, go_sem]; done)
  · rename_i a1 b1
    obtain ⟨rfl, _⟩ := crep_val hu
    obtain ⟨rfl, _⟩ := crep_val hv
    cases op <;> simp only [Option.some.injEq, Prod.mk.injEq, reduceCtorEq] at hp <;> obtain ⟨rfl, rfl⟩ := hp
    all_goals refine ⟨_, fun w' => ?_, .val rfl⟩
    all_goals first
        | (simp [eqGuard_at_string, binOp, Op.stringOp, std, cmpS, go_sem]; done)
        | (have h0 : a1.size + b1.size ≤ 9223372036854775807 := ho _ (List.mem_singleton.2 rfl)
           have h1 : ¬ ((a1.size + b1.size : Nat) : Int) > IntKind.i64.max := by
             have : IntKind.i64.max = 9223372036854775807 := by decide
             omega
           simp only [eqGuard_at_string, binOp, Op.stringOp]
           rw [if_neg h1]; rfl)
  · rename_i a1 b1
    obtain ⟨rfl, _⟩ := crep_val hu
    obtain ⟨rfl, _⟩ := crep_val hv
    split at hp
    all_goals first
      | (cases hp; done)
      | (rename_i hd
         simp only [Option.some.injEq, Prod.mk.injEq] at hp
         obtain ⟨rfl, rfl⟩ := hp
         have hb := desc_of hT hd (by simp)
         refine ⟨_, fun w' => ?_, .val rfl⟩
         rw [eqGuard_at_bool]
         first
           | exact run_eql_bool w' t a1 b1 hb
           | (refine (run_neq_bool w' t a1 b1 hb).trans ?_
              simp [std, cmpB, bne]))
  · cases hp

theorem un_sound {r : List Root} {op : UnOp} {u : Value} {U V : V} {obl : List Prop} (hu : VRep T w S r bx ph u U)
    (hp : unV (std P T) op U = some (V, obl)) : ∃ z, (∀ w' : World, (Op.unary op u).run P w' = .ok z w') ∧ VRep T w S r bx ph z V := by
  unfold unV at hp
  split at hp
  · rename_i a1
    obtain ⟨rfl, _⟩ := crep_val hu
    cases op <;> simp only [Option.some.injEq, Prod.mk.injEq, reduceCtorEq] at hp <;> obtain ⟨rfl, rfl⟩ := hp
    exact ⟨_, fun w' => rfl, .val rfl⟩
  · rename_i k a1
    obtain ⟨rfl, _⟩ := crep_val hu
    cases op <;> simp only [Option.some.injEq, Prod.mk.injEq, reduceCtorEq] at hp <;> obtain ⟨rfl, rfl⟩ := hp
    exact ⟨_, fun w' => rfl, .val rfl⟩
  · cases hp

theorem crep_sl {v : Value} {n : Nat} {cells : List C} (h : CRep w S v (.sl n cells)) : ∃ a cap, v = .slice a n cap := by
  cases h with
  | sl0 => exact ⟨_, _, rfl⟩
  | sl vs _ _ _ _ => exact ⟨_, _, rfl⟩
/-- bytes behind an address, as a string -/
theorem conv_bytes (hT : TOk P T) {a : Addr} {n cap : Nat} {cells : List C} {w' : World} {src dst e : TypeId} (us : Nat → Value) (hb : isBytesC cells) (hl : cells.length = n)
    (hc : ∀ k, k < n → w'.cell? (a.add k) = some (us k)) (hr : ∀ k (h : k < cells.length), CRep w S (us k) cells[k])
    (hs : P.underlying src = some (.slice e)) (he : P.underlying e = some (.int .u8)) (hd : P.underlying dst = some .string) :
    (convert src dst (.slice (some a) n cap)).run P w' = .ok (.string (bytesC cells)) w' := by
  have := run_convert_bytes_back (P := P) w' src dst e a cap (cells.map fun c => UInt8.ofNat (gi c).toNat) hs he hd (fun k hk => by
    have hk' : k < cells.length := by simpa using hk
    rw [hc k (by omega)]
    obtain ⟨b, hb'⟩ := hb _ (List.getElem_mem hk')
    have h1 := hr k hk'
    rw [hb'] at h1
    rw [(crep_val h1).1]
    simp [hb', gi])
  rw [List.length_map, hl] at this
  exact this

/-- in a world that keeps what is stable and what is owned -/
theorem own_cells {r : List Root} {t o n : Nat} {e : TypeId} {cells : List C} {w' : World} (h : Heap T w S r bx ph) (hc : (r.getD t .none).row[o]? = some (.own e n cells)) (hk : Keep S r bx ph w w') :
    RCRep T w' S (ph t o) (.own e n cells) := by
  refine (h.cell hc).frame hk.1 (fun _ h => h) (fun b hb => hk.2 t (some o) b (own_blk hc hb))
theorem own_form {v : Pv} {e : TypeId} {n : Nat} {cells : List C} (h : RCRep T w S v (.own e n cells)) : (v.v = .slice none 0 0 ∧ n = 0 ∧ cells = []) ∨
    ∃ g cap, v.v = .slice (some ⟨g, 0, none⟩) n cap ∧ n ≤ cap ∧ cap ≤ maxLen ∧ cells.length = n * szOf T e ∧ ∃ us : Nat → Value, (∀ k, k < cells.length → w.cell? ⟨g, k, none⟩ = some (us k)) ∧ ∀ k (hk : k < cells.length), CRep w S (us k) cells[k] := by
  obtain ⟨xs, h1, h2, h3⟩ := h
  generalize v.v = v at h1 ⊢
  rcases h1.2 with ⟨rfl, rfl⟩ | ⟨g, cap, cur, rfl, hB, hheap, hn, hc, hs, ht⟩
  · exact .inl ⟨rfl, rfl, List.eq_nil_of_length_eq_zero (by rw [← h2, h1.1]; simp)⟩
  · refine .inr ⟨g, cap, rfl, hn, hc, by rw [← h2, h1.1], fun k => xs.getD k undef, fun k hk => ?_, fun k hk => ?_⟩
    · have hk2 : k < xs.length := by omega
      have h5 : (cur.toList.take (n * szOf T e))[k]? = some xs[k] := by rw [ht, List.getElem?_eq_getElem hk2]
      rw [List.getElem?_take] at h5
      have hcur : cur[k]? = some xs[k] := by
        split at h5
        · simpa using h5
        · cases h5
      show _ = some (xs.getD k undef)
      rw [List.getD_eq_getElem?_getD, List.getElem?_eq_getElem hk2]
      simp [World.cell?, hheap, hcur]
    · have hk2 : k < xs.length := by omega
      show CRep w S (xs.getD k undef) _
      rw [List.getD_eq_getElem?_getD, List.getElem?_eq_getElem hk2]
      exact h3 k hk hk2

/-- a view into a tree -/
theorem tv_form {r : List Root} (h : Heap T w S r bx ph) {t o : Nat} {p : Path} {v : Value} (hx : XRep T w S r bx ph v (.tv t o p)) : ∃ sh c hh q e ks, (r.getD t .none).row[o]? = some (.tree sh c hh) ∧ (ph t o).get? p = some q ∧ pathOk T sh p ∧ sh.to p = .sl e ks ∧ v = q.v ∧
    ((v = nilSl ∧ gn (atC c p) = 0 ∧ gc (atC c p) = [] ∧ q.b = none) ∨ ∃ g cap xs hp, q.b = some g ∧ v = .slice (some ⟨g, 0, none⟩) (gn (atC c p)) cap ∧ w.ownsRow 0 e (szOf T e) v (gn (atC c p)) xs ∧ (gc (atC c p)).length = xs.length ∧ q.kids.length = xs.length ∧
      (hh = none → hp = none) ∧ ∀ k (h1 : k < xs.length) (h2 : k < q.kids.length) (h3 : k < (gc (atC c p)).length), CRepT T w S (holeAt hp k) (ks.getD (k % szOf T e) .st) xs[k] q.kids[k] (gc (atC c p))[k]) := by
  obtain ⟨sh, c, hh, q, h1, h2, h3, ⟨e, ks, h4⟩, h5, rfl⟩ := hx
  obtain ⟨t1, _, _, _⟩ := h.cell h1
  obtain ⟨hp', u, g1, g2, _⟩ := CRepT.get p t1 h2 h3
  rw [h4] at g1
  refine ⟨sh, c, hh, q, e, ks, h1, h2, h3, h4, rfl, ?_⟩
  rcases g1.sl_cases h5 with ⟨k1, k2, k3, k4, _⟩ | ⟨g, cap, xs, k1, k2, k3, k4, k5, k6, k7, k8⟩
  · exact .inl ⟨k1, k2, k3, k4⟩
  · exact .inr ⟨g, cap, xs, hp', k1, k2, k3, k4, k5, fun e => g2 (by rw [e]; rfl), k8⟩
theorem tv_slice {r : List Root} (h : Heap T w S r bx ph) {t o : Nat} {p : Path} {v : Value} (hx : XRep T w S r bx ph v (.tv t o p)) : ∃ a n cap, v = .slice a n cap := by
  obtain ⟨_, c, _, _, _, _, _, _, _, _, _, h1 | ⟨_, _, _, _, _, h1, _⟩⟩ := tv_form h hx
  · exact ⟨_, _, _, h1.1⟩
  · exact ⟨_, _, _, h1⟩
theorem conv_sound (hT : TOk P T) (h : Heap T w S st.r bx ph) {src dst : TypeId} {u : Value} {U V : V} {obl : List Prop} (hu : VRep T w S st.r bx ph u U)
    (hp : convV T (std P T) st src dst U = some (V, obl)) (ho : ∀ p ∈ obl, p) :
    ∃ z, (∀ w' : World, ((∃ c, U = .one (.c (.val c))) ∨ Keep S st.r bx ph w w') → (convert src dst u).run P w' = .ok z w') ∧ VRep T w S st.r bx ph z V := by
  unfold convV at hp
  split at hp
  · rename_i ts td hts htd
    obtain ⟨us, _⟩ := hT _ _ hts
    obtain ⟨ud, _⟩ := hT _ _ htd
    split at hp
    · rename_i k hd
      rw [hd] at ud
      split at hp
      · rename_i k' n
        obtain ⟨rfl, _⟩ := crep_val hu
        split at hp
        · rename_i hi
          cases hp
          refine ⟨_, fun w' _ => ?_, .val rfl⟩
          simp [convert, run_underlying us, run_underlying ud, Conv.intToInt, std]
        · cases hp
      · cases hp
    · rename_i hd
      rw [hd] at ud
      split at hp
      · rename_i s
        obtain ⟨rfl, _⟩ := crep_val hu
        cases hp
        refine ⟨_, fun w' _ => ?_, .val rfl⟩
        simp [convert, run_underlying us, run_underlying ud]
      · rename_i x hns
        split at hp
        · rename_i e hsl
          rw [hsl] at us
          split at hp
          · rename_i hu8
            have ue := desc_of hT hu8 (by simp)
            split at hp
            · rename_i n cells
              cases hp
              have hb : isBytesC cells := ho _ (List.mem_cons_self ..)
              have h1 : n ≤ cells.length := ho _ (List.mem_cons_of_mem _ (List.mem_cons_self ..))
              have h2 : cells.length ≤ n := ho _ (List.mem_cons_of_mem _ (List.mem_cons_of_mem _ (List.mem_cons_self ..)))
              refine ⟨_, fun w' hk0 => ?_, .val rfl⟩
              have hk : Keep S st.r bx ph w w' := by rcases hk0 with ⟨_, hk⟩ | hk; cases hk; exact hk
              have hu' : CRep w S u (.sl n cells) := hu
              cases hu' with
              | sl0 =>
                rename_i a cap
                cases a with
                | none => rw [run_convert_bytes_string w' src dst e none 0 cap us ue ud]; rfl
                | some a => exact conv_bytes (S := S) (w := w) hT (fun _ => undef) hb rfl (fun k hk => absurd hk (by omega)) (fun k hk => absurd hk (by simp)) us ue ud
              | sl vs hs hn hc hr =>
                exact conv_bytes (S := S) (w := w) hT vs hb (by omega) (fun k hk' => by
                  rw [Addr.add_lit]; exact (World.cell?_of_block (hk.1 _ hs)).trans (hc k (by omega))) hr us ue ud
            · cases hp
              rw [crep_nil hu]
              refine ⟨_, fun w' hk => ?_, .val rfl⟩
              rw [run_convert_bytes_string w' src dst e none 0 0 us ue ud]; rfl
            · rename_i t o
              split at hp
              · rename_i e' n cells hown
                split at hp
                · cases hp
                  have hb : isBytesC cells := ho _ (List.mem_cons_self ..)
                  obtain ⟨e'', n'', cells'', hc, rfl⟩ := hu
                  have hc2 := ownAt_eq hown
                  refine ⟨_, fun w' hk0 => ?_, .val rfl⟩
                  have hk : Keep S st.r bx ph w w' := by rcases hk0 with ⟨_, hk⟩ | hk; cases hk; exact hk
                  have hrc := own_cells h hc2 hk
                  rename_i heq
                  have hsz : szOf T e' = 1 := by rw [heq.1]; exact heq.2
                  rcases own_form hrc with ⟨h1, h2, h3⟩ | ⟨g, cap, h1, h2, h3, h4, us', h5, h6⟩
                  · rw [h1, h3, run_convert_bytes_string w' src dst e none 0 0 us ue ud]; rfl
                  · rw [h1]
                    exact conv_bytes (S := S) (w := w') hT us' hb (by rw [h4, hsz, Nat.mul_one]) (fun k hk' => by
                      rw [Addr.add_lit, Nat.zero_add]; exact h5 k (by rw [h4, hsz]; omega)) h6 us ue ud
                · cases hp
              · cases hp
            · cases hp
          · cases hp
        · cases hp
      · cases hp
    · cases hp
  · cases hp
end Go.Proofs.Ytdmdcmhgfgookaa.A
