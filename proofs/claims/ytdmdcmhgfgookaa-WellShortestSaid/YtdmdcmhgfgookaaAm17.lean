/- The ghost machine, part 17: append. -/
import Derived.Test.YtdmdcmhgfgookaaAm16
set_option linter.unusedSimpArgs false
set_option linter.unusedVariables false
set_option maxRecDepth 100000
set_option maxHeartbeats 4000000
namespace Go.Proofs.Ytdmdcmhgfgookaa.A
open Go Go.RowKit
variable {P : Program} {T : TT} {w w' w0 : World} {S S0 : Nat → Prop} {F : Fr} {bx : Nat → Nat} {ph : Nat → Nat → Pv} {a : Act} {st st' : St}

theorem crep_one {v : Value} {c : C} (h : CRep w S v c) : v.oneCell' = true := by
  cases h with
  | val hp => cases v <;> first | rfl | (simp [plain] at hp)
  | nil => rfl
  | sl0 => rfl
  | sl _ _ _ _ _ => rfl
  | mem _ _ _ _ => rfl
  | map0 => rfl
  | map _ _ _ _ _ _ _ _ => rfl

theorem dead_sound (h : Rel T w0 S0 F st a w S bx ph) (t o : Nat) : Rel T w0 S0 F { s := kill (ofCell t o) st.s, r := setCellR st.r t o .dead } a w S bx ph := by
  refine h.ghost (fun x => if ofCell t o x then .undef else x) rfl (by simp [length_setCell]) (h.heap.dead t o) (fun t κ b hb => ⟨t, κ, (owns_dead hb).1⟩) (fun v x hx => ?_) (fun _ h => h) (fun _ h => .inl h)
  split
  · trivial
  · rename_i hh; exact XRep.dead hx (by simpa using hh)

theorem run_append_empty (hT : TOk P T) {t ty e : TypeId} {te : TI} (hd : P.underlying t = some (.slice e)) (hte : T e = some te) {v : Value} {n : Nat} {xs : List Value} {sz : Nat} (hown : w.ownsRow 0 e sz v n xs) (aa : Option Addr) (c : Nat) :
    (Builtin.append_ #[t, t] ty #[v, .slice aa 0 c]).run P w = .ok v w := by
  have hv : ∃ a cap, v = .slice a n cap ∧ n ≤ cap := by
    rcases hown.2 with ⟨rfl, rfl⟩ | ⟨g, cap, cur, rfl, _, _, hn, _⟩
    · exact ⟨_, _, rfl, Nat.le_refl _⟩
    · exact ⟨_, _, rfl, hn⟩
  obtain ⟨a1, cap, rfl, hn⟩ := hv
  have hsz := run_sizeOf hT hte w
  cases aa <;> cases a1 <;> simp [Builtin.append_, run_underlying hd, hsz, Builtin.lenOf, hn, Builtin.firstCells, storeCells, loadCells, loadCellsFrom]

theorem base_sound (h : Heap T w S st.r bx ph) {e : TypeId} {V : V} {v : Value} {b : Option (Nat × Nat)} {n : Nat} {cells : List C} (hv : VRep T w S st.r bx ph v V)
    (hp : appBase (std P T) st e (szOf T e) V = some (b, n, cells)) : ∃ xs, w.ownsRow 0 e (szOf T e) v n xs ∧ xs.length = cells.length ∧ (∀ k (h : k < cells.length) (h2 : k < xs.length), CRep w S xs[k] cells[k]) ∧
      (b = none → v = .slice none 0 0 ∧ n = 0 ∧ cells = []) ∧ ∀ t o, b = some (t, o) → t ≠ st.s.length ∧ ∀ g, v.ownBlock = some g → owns st.r bx ph t (some o) g := by
  unfold appBase at hp
  split at hp
  · cases hp
    rw [crep_nil hv]
    exact ⟨[], World.ownsRow_nil _ _ _ _, rfl, fun k hk => absurd hk (by simp), fun _ => ⟨rfl, rfl, rfl⟩, fun t o h => by cases h⟩
  · rename_i t o
    split at hp
    · rename_i e' n' cells' hown
      split at hp
      · rename_i hc
        obtain ⟨rfl, hne⟩ := hc
        cases hp
        have hc2 := ownAt_eq hown
        obtain ⟨_, _, _, _, rfl⟩ := hv
        obtain ⟨xs, x1, x2, x3⟩ := h.cell hc2
        refine ⟨xs, x1, x2, x3, (fun h => by cases h), fun t' o' he => ?_⟩
        cases he
        exact ⟨hne, fun g hg => own_blk hc2 hg⟩
      · cases hp
    · cases hp
  · rename_i t o hi
    split at hp
    · rename_i e' n' cells' hown
      split at hp
      · rename_i hc
        obtain ⟨rfl, hne⟩ := hc
        cases hp
        have hc2 := ownAt_eq hown
        obtain ⟨e'', n'', cells'', aa, cap, a', h1, h2, h3, h4, h5, h6, h7⟩ := hv
        rw [hc2] at h1; cases h1
        have := h6 rfl
        subst this
        obtain ⟨xs, x1, x2, x3⟩ := h.cell hc2
        rw [h2] at x1
        have hv2 : v = .slice a' n cap := by rw [h5]; rfl
        rw [mulSz_std]
        refine ⟨xs.take (n * szOf T e), by rw [hv2]; exact owns_take x1 h4, ?_, fun k hk hk2 => ?_, (fun h => by cases h), fun t' o' he => ?_⟩
        · show _ = (extC cells' 0 (n * szOf T e)).length
          simp [extC, x2]
        · have hk' : k < (extC cells' 0 (n * szOf T e)).length := hk
          have hk3 : k < cells'.length := by simp [extC] at hk'; omega
          have e1 : (extC cells' 0 (n * szOf T e))[k] = cells'[k] := by simp [extC]
          show CRep w S (xs.take (n * szOf T e))[k] (extC cells' 0 (n * szOf T e))[k]
          rw [e1, List.getElem_take]
          exact x3 k _ _
        · cases he
          refine ⟨hne, fun g hg => own_blk hc2 ?_⟩
          show (ph t o).v.ownBlock = some g; rw [hv2] at hg; rw [h2]
          cases a' with
          | none => cases hg
          | some x => exact hg
      · cases hp
    · cases hp
  · cases hp

theorem news_sound (h : Heap T w S st.r bx ph) {e : TypeId} {V : V} {u : Value} {b : Option (Nat × Nat)} {m : Nat} {cs : List C} {obl : List Prop} (hu : VRep T w S st.r bx ph u V)
    (hp : appNews (std P T) st e (szOf T e) b V = some (m, cs, obl)) (ho : ∀ p ∈ obl, p) (hz : szOf T e ≠ 0) :
    ∃ news : List Value, news.length = m * szOf T e ∧ news.length = cs.length ∧ (∀ k (h : k < cs.length) (h2 : k < news.length), CRep w S news[k] cs[k]) ∧ ((m = 0 ∧ ∃ aa c, u = .slice aa 0 c) ∨ Src w u m news) := by
  have own : ∀ t o n cells e', (st.r.getD t .none).row[o]? = some (.own e' n cells) → e = e' → ∃ xs : List Value, w.ownsRow 0 e (szOf T e) (ph t o) n xs ∧ xs.length = cells.length ∧ ∀ k (h : k < cells.length) (h2 : k < xs.length), CRep w S xs[k] cells[k] := fun t o n cells e' hc he => by
    subst he; exact h.cell hc
  unfold appNews at hp
  split at hp
  · cases hp
    rw [crep_nil hu]
    exact ⟨[], by simp, rfl, fun k hk => absurd hk (by simp), .inl ⟨rfl, _, _, rfl⟩⟩
  · rename_i m' cs'
    cases hp
    have h1 : mulSz (std P T) m (szOf T e) ≤ cs.length := ho _ (List.mem_cons_self ..)
    have h2 : cs.length ≤ mulSz (std P T) m (szOf T e) := ho _ (List.mem_cons_of_mem _ (List.mem_cons_self ..))
    rw [mulSz_std] at h1 h2
    have hu' : CRep w S u (.sl m cs) := hu
    cases hu' with
    | sl0 => exact ⟨[], by simp, rfl, fun k hk => absurd hk (by simp), .inl ⟨rfl, _, _, rfl⟩⟩
    | sl vs hs hn hc hr =>
      refine ⟨(List.range cs.length).map vs, by simp; omega, by simp, fun k hk hk2 => by simpa using hr k hk, .inr (.inr ⟨_, _, rfl, fun j x hj => ?_⟩)⟩
      have hj' : j < cs.length := by have := (List.getElem?_eq_some_iff.1 hj).1; simpa using this
      rw [Addr.add_lit]
      rw [hc j hj']
      simp [hj'] at hj
      rw [hj]
  · rename_i t o
    split at hp
    · rename_i e' n' cells' hown
      split at hp
      · rename_i hc
        cases hp
        have hc2 := ownAt_eq hown
        obtain ⟨_, _, _, _, rfl⟩ := hu
        obtain ⟨xs, x1, x2, x3⟩ := own t o _ _ _ hc2 hc.1
        exact ⟨xs, x1.1, x2, x3, .inr (Src.of_owns x1)⟩
      · cases hp
    · cases hp
  · rename_i t o lo hi
    split at hp
    · rename_i e' n' cells' hown
      split at hp
      · rename_i hc
        cases hp
        have hc2 := ownAt_eq hown
        obtain ⟨e'', n'', cells'', aa, cap, a', h1, h2, h3, h4, rfl, h6, h7⟩ := hu
        rw [hc2] at h1; cases h1
        obtain ⟨xs, x1, x2, x3⟩ := own t o _ _ _ hc2 hc.1
        have e1 : (if lo = 0 then hi else (std P T).sub hi lo) = hi - lo := by
          split
          · omega
          · rfl
        rw [e1, mulSz_std, mulSz_std]
        have hlx : xs.length = n' * szOf T e := x1.1
        have hle : hi * szOf T e ≤ n' * szOf T e := Nat.mul_le_mul_right _ h4
        have hle2 : lo * szOf T e ≤ hi * szOf T e := Nat.mul_le_mul_right _ h3
        refine ⟨(xs.take (hi * szOf T e)).drop (lo * szOf T e), ?_, ?_, fun k hk hk2 => ?_, ?_⟩
        · rw [List.length_drop, List.length_take, Nat.sub_mul]; omega
        · show _ = (extC cells' (lo * szOf T e) (hi * szOf T e)).length
          simp [extC, x2]
        · obtain ⟨q1, q2⟩ := extC_get hk
          show CRep w S _ (extC cells' (lo * szOf T e) (hi * szOf T e))[k]
          rw [q2, List.getElem_drop, List.getElem_take]
          exact x3 _ _ _
        · by_cases hlt : lo < hi
          · obtain ⟨g, rfl, rfl⟩ := h7 hlt
            right; right
            refine ⟨_, _, rfl, fun j x hj => ?_⟩
            rw [h2] at x1
            have hcell := World.ownsRow.cells x1 (g := g) rfl (lo * szOf T e + j) x (by
              rw [List.getElem?_drop, List.getElem?_take] at hj
              split at hj
              · exact hj
              · cases hj)
            rw [Addr.add_lit] at hcell ⊢
            rw [Nat.zero_add] at hcell
            rw [← hc.1]
            exact hcell
          · left
            have e0 : hi - lo = 0 := by omega
            exact ⟨e0, _, _, by rw [e0]⟩
      · cases hp
    · cases hp
  · cases hp
end Go.Proofs.Ytdmdcmhgfgookaa.A
