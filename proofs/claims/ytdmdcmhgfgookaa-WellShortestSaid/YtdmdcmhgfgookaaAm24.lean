/- The ghost machine, part 24: regions, and the rules for code. -/
import Derived.Test.YtdmdcmhgfgookaaAm23
set_option linter.unusedSimpArgs false
set_option linter.unusedVariables false
set_option maxRecDepth 100000
set_option maxHeartbeats 4000000
namespace Go.Proofs.Ytdmdcmhgfgookaa.A
open Go Go.RowKit
variable {P : Program} {T : TT} {w w' w0 : World} {S S0 : Nat → Prop} {F : Fr} {bx : Nat → Nat} {ph : Nat → Nat → Pv} {a : Act} {st st' : St}

theorem step1_sound (hT : TOk P T) (h : Rels T w0 S0 F st a w) {say : Say} {ops : List Oper} {o : Oper} {i : Nat} {obl : List Prop} (hp : step1 T (std P T) say ops st o i = some (st', obl)) (ho : ∀ p ∈ obl, p)
    {K : Act → World → Prop} {Q : Exit → Act → World → Prop} (hK : ∀ z w', Rels T w0 S0 F st' (a.put o.dst z) w' → K (a.put o.dst z) w') : o.wp P a w K Q := by
  obtain ⟨S, bx, ph, h1, hsp⟩ := h
  unfold step1 at hp
  split at hp
  · rename_i v obl' hpu
    cases hp
    obtain ⟨z, r1, r2⟩ := pureOp_sound hT h1 hpu ho
    refine wp_value (r1 w (.inr (Keep.refl _ _ _ _ _))) (hK z w ⟨S, bx, ph, ?_, ?_⟩)
    · cases hdst : o.dst with
      | none => exact h1
      | some d => exact h1.put d r2
    · cases hdst : o.dst with
      | none => exact hsp
      | some d => show st.r.getD (st.s.set d v).length .none = .none; rw [List.length_set]; exact hsp
  · split at hp
    · rename_i vf st1 obl' hru
      split at hp
      · rename_i hd
        cases hp
        refine runOp_sound hT h1 hsp hru ho (fun k hk => ?_) fun z w' hz _ => hK z w' hz
        rw [hk] at hd; simpa [dstOk] using hd
      · cases hp
    · cases hp

theorem wants_sound (h : Rels T w0 S0 F st a w) {say : Say} {ops : List Oper} {o : Oper} {i : Nat} {b : Bool} {obl : List Prop} (hp : wants (std P T) say ops st o i = some (b, obl)) (ho : ∀ p ∈ obl, p) : Region.wanted o (yielded ops.toArray a.tmps) = b := by
  obtain ⟨S, bx, ph, h1, hsp⟩ := h
  unfold wants at hp
  unfold Region.wanted
  split at hp
  · rename_i hg
    cases hp
    rw [hg]
  · rename_i k want hg
    rw [hg]
    dsimp only
    split at hp
    · rename_i d hd
      split at hp
      · rename_i t g hs _
        cases hp
        have hb : t = g := ho _ (List.mem_cons_self ..)
        subst hb
        have hlt : d < st.s.length := by
          rcases Nat.lt_or_ge d st.s.length with h2 | h2
          · exact h2
          · rw [List.getD_eq_getElem?_getD, List.getElem?_eq_none h2] at hs; cases hs
        have h2 := h1.slot d hlt
        rw [hs] at h2
        have h3 := (crep_val h2).1
        have h4 : a.tmps[d]? = some (.bool t) := by
          have hsz : d < a.tmps.size := by rw [h1.size]; exact hlt
          rw [Array.getElem?_eq_getElem hsz]
          rw [Array.getD_eq_getD_getElem?, Array.getElem?_eq_getElem hsz] at h3
          simpa using h3
        have h5 : ((ops.toArray[k]?).bind (·.dst)) = some d := by simpa using hd
        unfold yielded
        rw [h5]
        simp only [Option.bind_some, h4]
        cases t <;> cases want <;> rfl
      · rename_i hs
        cases hp
        have hlt : d < st.s.length := by
          rcases Nat.lt_or_ge d st.s.length with h2 | h2
          · exact h2
          · rw [List.getD_eq_getElem?_getD, List.getElem?_eq_none h2] at hs; cases hs
        have h2 := h1.slot d hlt
        rw [hs] at h2
        have h3 : a.tmps.getD d undef = undef := h2
        have hsz : d < a.tmps.size := by rw [h1.size]; exact hlt
        have h4 : a.tmps[d]? = some undef := by
          rw [Array.getElem?_eq_getElem hsz]
          rw [Array.getD_eq_getD_getElem?, Array.getElem?_eq_getElem hsz] at h3
          simpa using h3
        have h5 : ((ops.toArray[k]?).bind (·.dst)) = some d := by simpa using hd
        unfold yielded
        rw [h5]
        simp only [Option.bind_some, h4]
        rfl
      · cases hp
    · cases hp

theorem stepW_sound (hT : TOk P T) (h : Rels T w0 S0 F st a w) {say : Say} {ops : List Oper} {o : Oper} {i : Nat} {obl : List Prop} (hp : stepW T (std P T) say ops st o i = some (st', obl)) (ho : ∀ p ∈ obl, p) (hoi : ops[i]? = some o)
    {K : Act → World → Prop} {Q : Exit → Act → World → Prop} (hK : ∀ a' w', Rels T w0 S0 F st' a' w' → K a' w') : wpOp P ops.toArray Q i K a w := by
  unfold wpOp
  have : ops.toArray[i]? = some o := by simpa using hoi
  rw [this]
  dsimp only
  unfold stepW at hp
  split at hp
  · rename_i obl1 hw
    split at hp
    · rename_i st2 obl2 h1
      cases hp
      have hwt := wants_sound h hw (fun p hp => ho p (List.mem_append_left _ hp))
      rw [if_pos hwt]
      exact .inl (step1_sound hT h h1 (fun p hp => ho p (List.mem_append_right _ hp)) fun z w' hz => hK _ _ hz)
    · cases hp
  · rename_i obl1 hw
    cases hp
    have hwt := wants_sound h hw ho
    rw [if_neg (by rw [hwt]; simp)]
    obtain ⟨S, bx, ph, h1, hsp⟩ := h
    refine hK _ _ ⟨S, bx, ph, nop_put h1 _, ?_⟩
    cases hdst : o.dst with
    | none => exact hsp
    | some d => show st.r.getD (st.s.set d .nop).length .none = .none; rw [List.length_set]; exact hsp
  · cases hp

theorem runs_sound (hT : TOk P T) {say : Say} {ops : List Oper} {Q : Exit → Act → World → Prop} :
    ∀ (rest : List Oper) (i : Nat) (st : St) (a : Act) (w : World) (obl : List Prop), Rels T w0 S0 F st a w → (∀ k, rest[k]? = ops[i + k]?) → runs T (std P T) say ops st rest i = some (st', obl) → (∀ p ∈ obl, p) →
      (∀ a' w', Rels T w0 S0 F st' a' w' → Q .normal a' w') → wpOps P ops.toArray Q ((List.range rest.length).map (i + ·)) a w := by
  intro rest
  induction rest with
  | nil =>
    intro i st a w obl h _ hr _ hQ
    simp only [runs, Option.some.injEq, Prod.mk.injEq] at hr
    obtain ⟨rfl, rfl⟩ := hr
    exact hQ a w h
  | cons o rest ih =>
    intro i st a w obl h hix hr ho hQ
    unfold runs at hr
    split at hr
    · rename_i st1 obl1 h1
      split at hr
      · rename_i st2 obl2 h2
        cases hr
        have hoi : ops[i]? = some o := by have := hix 0; simpa using this.symm
        rw [List.length_cons, List.range_succ_eq_map, List.map_cons, List.map_map, Nat.add_zero, wpOps_cons]
        refine stepW_sound hT h h1 (fun p hp => ho p (List.mem_append_left _ hp)) hoi (fun a' w' h' => ?_)
        have e1 : ((fun x => i + x) ∘ Nat.succ) = fun x => (i + 1) + x := by funext x; simp; omega
        rw [e1]
        refine ih (i + 1) st1 a' w' obl2 h' (fun k => ?_) h2 (fun p hp => ho p (List.mem_append_right _ hp)) hQ
        have := hix (k + 1)
        rw [show i + 1 + k = i + (k + 1) by omega, ← this]; rfl
      · cases hr
    · cases hr

/-! ### the rules for code -/
/-- from the machine's state, whatever frame and world it means, the code comes to a state that Q allows -/
def Aw (P : Program) (T : TT) (c : Code) (Q : Exit → St → Prop) (st : St) : Prop :=
  ∀ w0 S0 F a w, Rels T w0 S0 F st a w → c.wp P (fun e a' w' => ∃ st', Q e st' ∧ Rels T w0 S0 F st' a' w') a w
/-- the second state says less -/
def Le (T : TT) (st st' : St) : Prop := ∀ w0 S0 F a w, Rels T w0 S0 F st a w → Rels T w0 S0 F st' a w
theorem Le.refl (T : TT) (st : St) : Le T st st := fun _ _ _ _ _ h => h
variable {Q : Exit → St → Prop}
theorem Aw.mono {c : Code} {Q' : Exit → St → Prop} (h : Aw P T c Q st) (hq : ∀ e st, Q e st → Q' e st) : Aw P T c Q' st :=
  fun w0 S0 F a w hr => wp_mono (h w0 S0 F a w hr) fun _ _ _ ⟨st', q, r⟩ => ⟨st', hq _ _ q, r⟩
theorem aw_le {c : Code} (hl : Le T st st') (h : Aw P T c Q st') : Aw P T c Q st := fun w0 S0 F a w hr => h w0 S0 F a w (hl w0 S0 F a w hr)
def Th (K : St → Prop) (Q : Exit → St → Prop) : Exit → St → Prop
  | .normal, st => K st
  | e, st => Q e st
def Blk (id : Nat) (Q : Exit → St → Prop) : Exit → St → Prop
  | .exit id', st => if id' = id then Q .normal st else Q (.exit id') st
  | e, st => Q e st
theorem aw_skip (h : Q .normal st) : Aw P T .skip Q st := fun _ _ _ _ _ hr => wp_skip ⟨st, h, hr⟩
theorem aw_exit {id : Nat} (h : Q (.exit id) st) : Aw P T (.exit id) Q st := fun _ _ _ _ _ hr => wp_exit ⟨st, h, hr⟩
theorem aw_ret (h : Q .ret st) : Aw P T .ret Q st := fun _ _ _ _ _ hr => wp_ret ⟨st, h, hr⟩
theorem aw_seq {x y : Code} (h : ∀ K : St → Prop, (∀ st, Aw P T y Q st → K st) → Aw P T x (Th K Q) st) : Aw P T (.seq x y) Q st := by
  intro w0 S0 F a w hr
  refine wp_seq (wp_mono (h (fun st => Aw P T y Q st) (fun _ h => h) w0 S0 F a w hr) fun e a' w' ⟨st', q, r⟩ => ?_)
  cases e <;> first | exact q w0 S0 F a' w' r | exact ⟨st', q, r⟩
theorem aw_cond {c : Operand} {x y : Code} {b : Bool} (hc : ev st.s c = .one (.c (.val (.bool b)))) (ht : b = true → Aw P T x Q st) (hf : b = false → Aw P T y Q st) : Aw P T (.cond c x y) Q st := by
  intro w0 S0 F a w hr
  have hr0 := hr
  obtain ⟨S, bx, ph, h1, hsp⟩ := hr0
  have h2 := ev_sound h1 c
  rw [hc] at h2
  exact wp_cond_split (crep_val h2).1 (fun hb => ht hb w0 S0 F a w hr) (fun hb => hf hb w0 S0 F a w hr)
theorem aw_block {id : Nat} {c : Code} (h : Aw P T c (Blk id Q) st) : Aw P T (.block id c) Q st := by
  intro w0 S0 F a w hr
  refine wp_block (wp_mono (h w0 S0 F a w hr) fun e a' w' ⟨st', q, r⟩ => ?_)
  cases e with
  | exit id' =>
    simp only [Exit.inBlock, Blk] at q ⊢
    split
    · rename_i e; rw [if_pos e] at q; exact ⟨st', q, r⟩
    · rename_i e; rw [if_neg e] at q; exact ⟨st', q, r⟩
  | _ => exact ⟨st', q, r⟩
theorem aw_region (hT : TOk P T) (say : Say) {id : Nat} {ops : Array Oper} {obl : List Prop} (hr : runs T (std P T) say ops.toList st ops.toList 0 = some (st', obl)) (ho : ∀ p ∈ obl, p) (h : Q .normal st') : Aw P T (.region id ops false) Q st := by
  intro w0 S0 F a w hrel
  refine wp_region ?_
  have := runs_sound (Q := fun e a' w' => ∃ st', Q e st' ∧ Rels T w0 S0 F st' a' w') hT ops.toList 0 st a w obl hrel (fun k => by rw [Nat.zero_add]) hr ho (fun a' w' h' => ⟨st', h, h'⟩)
  simpa using this
theorem aw_loop {c : Code} (I : Nat → St → Prop) {m : Nat} {st1 : St} (hl : Le T st st1) (h0 : I m st1)
    (round : ∀ m st, I m st → Aw P T c (Th (fun st' => ∃ st'' m', Le T st' st'' ∧ m' < m ∧ I m' st'') Q) st) : Aw P T (.loop c) Q st := by
  intro w0 S0 F a w hr b k cs
  have key : ∀ n st a w, I n st → Rels T w0 S0 F st a w →
      ∃ e a' w', (∃ st', Q e st' ∧ Rels T w0 S0 F st' a' w') ∧ Arrives P (lone (b.at a (.code c :: .inLoop c :: k)) cs w) b k cs e a' w' := by
    intro n
    induction n using Nat.strongRecOn with
    | _ n ih =>
      intro st a w hI hr
      obtain ⟨e, a₁, w₁, ⟨st₁, hq, hr₁⟩, harr⟩ := round n st hI w0 S0 F a w hr b (.inLoop c :: k) cs
      cases e with
      | normal =>
        obtain ⟨st2, m', hle, hlt, hI'⟩ := hq
        obtain ⟨e₂, a₂, w₂, hq₂, harr₂⟩ := ih m' hlt st2 a₁ w₁ hI' (hle _ _ _ _ _ hr₁)
        exact ⟨e₂, a₂, w₂, hq₂, .of_steps (Steps.trans harr (.one step_inLoop)) harr₂⟩
      | exit id => exact ⟨_, a₁, w₁, ⟨st₁, hq, hr₁⟩, .pass (x := .inLoop c) rfl (fun _ _ => .inl (by simp)) harr⟩
      | goto l => exact ⟨_, a₁, w₁, ⟨st₁, hq, hr₁⟩, .pass (x := .inLoop c) rfl (fun _ _ => .inl (by simp)) harr⟩
      | ret => exact ⟨_, a₁, w₁, ⟨st₁, hq, hr₁⟩, .pass (x := .inLoop c) rfl (fun _ _ => .inl (by simp)) harr⟩
      | panic ch => exact ⟨_, a₁, w₁, ⟨st₁, hq, hr₁⟩, .pass (x := .inLoop c) rfl (fun _ _ => .inl (by simp)) harr⟩
      | outgrown => exact ⟨_, a₁, w₁, ⟨st₁, hq, hr₁⟩, .pass (x := .inLoop c) rfl (fun _ _ => .inl (by simp)) harr⟩
  obtain ⟨e, a', w', hq, harr⟩ := key m st1 a w h0 (hl _ _ _ _ _ hr)
  exact ⟨e, a', w', hq, .of_steps (.one step_loop) harr⟩
end Go.Proofs.Ytdmdcmhgfgookaa.A
