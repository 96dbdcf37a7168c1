/- What the laws of this seat need, part 3. -/
import Derived.Test.YtcpcghnpoekhpaaMz2
import Derived.OrdersHeld
import Derived.RangeFuncIn
import Derived.OwnWalkIn
import Derived.RangeFuncNested
import Derived.RangeFuncLeaves
import Derived.ProofKit
import Derived.OpenShut
import Derived.SizedLaws
import Derived.Deep.Slices
import Derived.Deep.Strs
import Derived.Lib.Bytealg
import Derived.Sort.Walk0
import Derived.RangeFuncRecord
/- The ghost machine, part 24: regions, and the rules for code. -/
set_option linter.unusedSimpArgs false
set_option linter.unusedVariables false
set_option maxRecDepth 100000
set_option maxHeartbeats 4000000
namespace Go.Proofs.Ytcpcghnpoekhpaa.A
open Go Go.RowKit
variable {P : Program} {T : TT} {w w' w0 : World} {S S0 : Nat → Prop} {F : Fr} {bx : Nat → Nat} {ph : Nat → Nat → Pv} {a : Act} {st st' : St}
theorem step1_sound (hT : TOk P T) (h : Rels T w0 S0 F st a w) {say : Say} {ops : List Oper} {o : Oper} {i : Nat} {obl : List Prop} (hp : step1 T (std P T) say ops st o i = some (st', obl)) (ho : ∀ p ∈ obl, p)
  {K : Act → World → Prop} {Q : Exit → Act → World → Prop} (hK : ∀ z w', Rels T w0 S0 F st' (a.put o.dst z) w' → K (a.put o.dst z) w') : o.wp P a w K Q := by
 obtain ⟨S, bx, ph, h1, hsp⟩ := h
 unfold step1 at hp
 split at hp
 ·rename_i v obl' hpu
  cases hp
  obtain ⟨z, r1, r2⟩ := pureOp_sound hT h1 hpu ho
  refine wp_value (r1 w (.inr (Keep.refl _ _ _ _ _))) (hK z w ⟨S, bx, ph, ?_, ?_⟩)
  ·cases hdst : o.dst with
   | none => exact h1
   | some d => exact h1.put d r2
  ·cases hdst : o.dst with
   | none => exact hsp
   | some d => show st.r.getD (st.s.set d v).length .none = .none; rw [List.length_set]; exact hsp
 ·split at hp
  ·rename_i vf st1 obl' hru
   split at hp
   ·rename_i hd
    cases hp
    refine runOp_sound hT h1 hsp hru ho (fun k hk => ?_) fun z w' hz _ => hK z w' hz
    rw [hk] at hd; simpa [dstOk] using hd
   ·cases hp
  ·cases hp
theorem wants_sound (h : Rels T w0 S0 F st a w) {say : Say} {ops : List Oper} {o : Oper} {i : Nat} {b : Bool} {obl : List Prop} (hp : wants (std P T) say ops st o i = some (b, obl)) (ho : ∀ p ∈ obl, p) : Region.wanted o (yielded ops.toArray a.tmps) = b := by
 obtain ⟨S, bx, ph, h1, hsp⟩ := h
 unfold wants at hp
 unfold Region.wanted
 split at hp
 ·rename_i hg
  cases hp
  rw [hg]
 ·rename_i k want hg
  rw [hg]
  dsimp only
  split at hp
  ·rename_i d hd
   split at hp
   ·rename_i t g hs _
    cases hp
    have hb : t = g := ho _ (List.mem_cons_self ..)
    subst hb
    have hlt : d < st.s.length := by
     rcases Nat.lt_or_ge d st.s.length with h2 | h2
     ·exact h2
     ·rw [List.getD_eq_getElem?_getD, List.getElem?_eq_none h2] at hs; cases hs
    have h2 := h1.slot d hlt
    rw [hs] at h2
    have h3 := (crep_val h2).1
    have h4 : a.tmps[d]? = some (.bool t) := by
     have hsz : d < a.tmps.size := by rw [h1.size]; exact hlt
     rw [Array.getElem?_eq_getElem hsz]
     rw [Array.getD_eq_getD_getElem?, Array.getElem?_eq_getElem hsz] at h3
     simpa using h3
    have h5 : ((ops.toArray[k]?).bind (·.dst)) = some d := by simpa using hd
    unfold yielded
    rw [h5]
    simp only [Option.bind_some, h4]
    cases t <;> cases want <;> rfl
   ·rename_i hs
    cases hp
    have hlt : d < st.s.length := by
     rcases Nat.lt_or_ge d st.s.length with h2 | h2
     ·exact h2
     ·rw [List.getD_eq_getElem?_getD, List.getElem?_eq_none h2] at hs; cases hs
    have h2 := h1.slot d hlt
    rw [hs] at h2
    have h3 : a.tmps.getD d undef = undef := h2
    have hsz : d < a.tmps.size := by rw [h1.size]; exact hlt
    have h4 : a.tmps[d]? = some undef := by
     rw [Array.getElem?_eq_getElem hsz]
     rw [Array.getD_eq_getD_getElem?, Array.getElem?_eq_getElem hsz] at h3
     simpa using h3
    have h5 : ((ops.toArray[k]?).bind (·.dst)) = some d := by simpa using hd
    unfold yielded
    rw [h5]
    simp only [Option.bind_some, h4]
    rfl
   ·cases hp
  ·cases hp
/-! ### the rules for code -/
def Aw (P : Program) (T : TT) (c : Code) (Q : Exit → St → Prop) (st : St) : Prop :=
 ∀ w0 S0 F a w, Rels T w0 S0 F st a w → c.wp P (fun e a' w' => ∃ st', Q e st' ∧ Rels T w0 S0 F st' a' w') a w
def Le (T : TT) (st st' : St) : Prop := ∀ w0 S0 F a w, Rels T w0 S0 F st a w → Rels T w0 S0 F st' a w
theorem Le.refl (T : TT) (st : St) : Le T st st := fun _ _ _ _ _ h => h
variable {Q : Exit → St → Prop}
theorem Aw.mono {c : Code} {Q' : Exit → St → Prop} (h : Aw P T c Q st) (hq : ∀ e st, Q e st → Q' e st) : Aw P T c Q' st :=
 fun w0 S0 F a w hr => wp_mono (h w0 S0 F a w hr) fun _ _ _ ⟨st', q, r⟩ => ⟨st', hq _ _ q, r⟩
theorem aw_le {c : Code} (hl : Le T st st') (h : Aw P T c Q st') : Aw P T c Q st := fun w0 S0 F a w hr => h w0 S0 F a w (hl w0 S0 F a w hr)
def Th (K : St → Prop) (Q : Exit → St → Prop) : Exit → St → Prop
 | .normal, st => K st
 | e, st => Q e st
def Blk (id : Nat) (Q : Exit → St → Prop) : Exit → St → Prop
 | .exit id', st => if id' = id then Q .normal st else Q (.exit id') st
 | e, st => Q e st
theorem aw_skip (h : Q .normal st) : Aw P T .skip Q st := fun _ _ _ _ _ hr => wp_skip ⟨st, h, hr⟩
theorem aw_exit {id : Nat} (h : Q (.exit id) st) : Aw P T (.exit id) Q st := fun _ _ _ _ _ hr => wp_exit ⟨st, h, hr⟩
theorem aw_ret (h : Q .ret st) : Aw P T .ret Q st := fun _ _ _ _ _ hr => wp_ret ⟨st, h, hr⟩
theorem aw_seq {x y : Code} (h : ∀ K : St → Prop, (∀ st, Aw P T y Q st → K st) → Aw P T x (Th K Q) st) : Aw P T (.seq x y) Q st := by
 intro w0 S0 F a w hr
 refine wp_seq (wp_mono (h (fun st => Aw P T y Q st) (fun _ h => h) w0 S0 F a w hr) fun e a' w' ⟨st', q, r⟩ => ?_)
 cases e <;> first | exact q w0 S0 F a' w' r | exact ⟨st', q, r⟩
theorem aw_cond {c : Operand} {x y : Code} {b : Bool} (hc : ev st.s c = .one (.c (.val (.bool b)))) (ht : b = true → Aw P T x Q st) (hf : b = false → Aw P T y Q st) : Aw P T (.cond c x y) Q st := by
 intro w0 S0 F a w hr
 have hr0 := hr
 obtain ⟨S, bx, ph, h1, hsp⟩ := hr0
 have h2 := ev_sound h1 c
 rw [hc] at h2
 exact wp_cond_split (crep_val h2).1 (fun hb => ht hb w0 S0 F a w hr) (fun hb => hf hb w0 S0 F a w hr)
theorem aw_block {id : Nat} {c : Code} (h : Aw P T c (Blk id Q) st) : Aw P T (.block id c) Q st := by
 intro w0 S0 F a w hr
 refine wp_block (wp_mono (h w0 S0 F a w hr) fun e a' w' ⟨st', q, r⟩ => ?_)
 cases e with
 | exit id' =>
  simp only [Exit.inBlock, Blk] at q ⊢
  split
  ·rename_i e; rw [if_pos e] at q; exact ⟨st', q, r⟩
  ·rename_i e; rw [if_neg e] at q; exact ⟨st', q, r⟩
 | _ => exact ⟨st', q, r⟩
theorem aw_loop {c : Code} (I : Nat → St → Prop) {m : Nat} {st1 : St} (hl : Le T st st1) (h0 : I m st1)
  (round : ∀ m st, I m st → Aw P T c (Th (fun st' => ∃ st'' m', Le T st' st'' ∧ m' < m ∧ I m' st'') Q) st) : Aw P T (.loop c) Q st := by
 intro w0 S0 F a w hr b k cs
 have key : ∀ n st a w, I n st → Rels T w0 S0 F st a w →
   ∃ e a' w', (∃ st', Q e st' ∧ Rels T w0 S0 F st' a' w') ∧ Arrives P (lone (b.at a (.code c :: .inLoop c :: k)) cs w) b k cs e a' w' := by
  intro n
  induction n using Nat.strongRecOn with
  | _ n ih =>
   intro st a w hI hr
   obtain ⟨e, a₁, w₁, ⟨st₁, hq, hr₁⟩, harr⟩ := round n st hI w0 S0 F a w hr b (.inLoop c :: k) cs
   cases e with
   | normal =>
    obtain ⟨st2, m', hle, hlt, hI'⟩ := hq
    obtain ⟨e₂, a₂, w₂, hq₂, harr₂⟩ := ih m' hlt st2 a₁ w₁ hI' (hle _ _ _ _ _ hr₁)
    exact ⟨e₂, a₂, w₂, hq₂, .of_steps (Steps.trans harr (.one step_inLoop)) harr₂⟩
   | exit id => exact ⟨_, a₁, w₁, ⟨st₁, hq, hr₁⟩, .pass (x := .inLoop c) rfl (fun _ _ => .inl (by simp)) harr⟩
   | goto l => exact ⟨_, a₁, w₁, ⟨st₁, hq, hr₁⟩, .pass (x := .inLoop c) rfl (fun _ _ => .inl (by simp)) harr⟩
   | ret => exact ⟨_, a₁, w₁, ⟨st₁, hq, hr₁⟩, .pass (x := .inLoop c) rfl (fun _ _ => .inl (by simp)) harr⟩
   | panic ch => exact ⟨_, a₁, w₁, ⟨st₁, hq, hr₁⟩, .pass (x := .inLoop c) rfl (fun _ _ => .inl (by simp)) harr⟩
   | outgrown => exact ⟨_, a₁, w₁, ⟨st₁, hq, hr₁⟩, .pass (x := .inLoop c) rfl (fun _ _ => .inl (by simp)) harr⟩
 obtain ⟨e, a', w', hq, harr⟩ := key m st1 a w h0 (hl _ _ _ _ _ hr)
 exact ⟨e, a', w', hq, .of_steps (.one step_loop) harr⟩
end Go.Proofs.Ytcpcghnpoekhpaa.A
/- The ghost machine, part 25: what stands at a loop's head; what a function gives. -/
set_option linter.unusedSimpArgs false
set_option linter.unusedVariables false
set_option maxRecDepth 100000
set_option maxHeartbeats 4000000
namespace Go.Proofs.Ytcpcghnpoekhpaa.A
open Go Go.RowKit
variable {P : Program} {T : TT} {w w' w0 : World} {S S0 : Nat → Prop} {F : Fr} {bx : Nat → Nat} {ph : Nat → Nat → Pv} {a : Act} {st st' : St}
theorem Rel.reslot (h : Rel T w0 S0 F st a w S bx ph) (d : Nat) {V : V} (hV : VRep T w S st.r bx ph (a.tmps.getD d undef) V) : Rel T w0 S0 F { st with s := st.s.set d V } a w S bx ph := by
 refine ⟨by simp [h.size], ⟨by simp only [List.length_set]; exact h.rsize.1, fun t ht => h.rsize.2 t (by simpa using ht)⟩, h.defers, h.heap, h.mine, fun i hi => ?_, h.keep, h.new, h.chg⟩
 have hi' : i < st.s.length := by simpa using hi
 show VRep T w S st.r bx ph (a.tmps.getD i undef) ((st.s.set d V).getD i .undef)
 rw [getD_set]
 by_cases e : d = i
 ·subst e; rw [if_pos ⟨rfl, hi'⟩]; exact hV
 ·rw [if_neg (fun hh => e hh.1)]; exact h.slot i hi'
inductive KS where
 | keep
 | own (e : TypeId)
 | map
 | fz
 | tree (sh : Sh)
 | btree (o : Nat) (sh : Sh)
 | box (o : Nat) (e : TypeId)
 | bfz (o : Nat)
 | bself (o : Nat)
def canon1 (T : TT) (j : J) (st : St) (d : Nat) : KS → Option St
 | .keep => some st
 | .own e =>
  if d < st.s.length then
   match st.s.getD d .undef with
   | .one (.c .nil) =>
    let st1 : St := { st with r := pushR st.r st.s.length (.own e 0 []) }
    some { name st1 d with s := (name st1 d).s.set d (.one (.view d 0)) }
   | .one x =>
    match push T j st x with
    | some st1 => (match (rootOf st1.r st1.s.length).row with | [.own _ _ _] => some { name st1 d with s := (name st1 d).s.set d (.one (.view d 0)) } | _ => none)
    | none => none
   | _ => none
  else none
 | .map =>
  if d < st.s.length then
   match st.s.getD d .undef with
   | .one (.mv t o) =>
    match push T j st (.mv t o) with
    | some st1 => (match (rootOf st1.r st1.s.length).row with | [.map _ _] => some { name st1 d with s := (name st1 d).s.set d (.one (.mv d 0)) } | _ => none)
    | none => none
   | _ => none
  else none
 | .fz =>
  if d < st.s.length then
   match st.s.getD d .undef with
   | .one (.c .nil) => some { st with s := st.s.set d (.one (.c (.sl 0 []))) }
   | .one x => some (freezeX T j st x)
   | _ => none
  else none
 | .tree sh =>
  if d < st.s.length then
   match st.s.getD d .undef with
   | .one (.c .nil) =>
    match sh with
    | .sl _ _ =>
     let st1 : St := { st with r := pushR st.r st.s.length (.tree sh (.sl 0 []) none) }
     some { name st1 d with s := (name st1 d).s.set d (.one (.tv d 0 [])) }
    | .st => none
   | .one x =>
    match push T j st x with
    | some st1 => (match (rootOf st1.r st1.s.length).row with | [.tree _ _ none] => some { name st1 d with s := (name st1 d).s.set d (.one (.tv d 0 [])) } | _ => none)
    | none => none
   | _ => none
  else none
 | .btree o sh =>
  match st.r.getD d .none with
  | .box row =>
   match row[o]? with
   | some (.st .nil) => (match sh with | .sl _ _ => some { st with r := setCellR st.r d o (.tree sh (.sl 0 []) none) } | .st => none)
   | some (.tree _ _ none) => some st
   | _ => none
  | _ => none
 | .bself o =>
  match st.r.getD d .none with
  | .box row =>
   match row[o]? with
   | some (.st (.val (.pointer none))) => some { st with r := setCellR st.r d o (.me none) }
   | some (.me none) => some st
   | _ => none
  | _ => none
 | .box o e =>
  match st.r.getD d .none with
  | .box row =>
   match row[o]? with
   | some (.st .nil) => some { st with r := setCellR st.r d o (.own e 0 []) }
   | some (.own _ _ _) => some st
   | _ => none
  | _ => none
 | .bfz o =>
  match st.r.getD d .none with
  | .box row =>
   match row[o]? with
   | some (.own _ _ _) => some (freeze T j st d o)
   | some (.tree _ _ none) => some (freeze T j st d o)
   | some (.st _) => some st
   | _ => none
  | _ => none
def within (l : List Nat) : X → Bool
 | .view t _ | .mv t _ | .sub t _ _ _ | .ptr t _ | .eptr t _ _ | .tv t _ _ | .tp t _ _ _ _ | .bfn _ t => l.contains t
 | .fn _ caps => caps.all l.contains
 | _ => true
def mask (ks : List Nat) (rs : List Nat) (st : St) : St :=
  { s := st.s.zipIdx.map fun p => if ks.contains p.2 then mapV (fun x => if within rs x then x else .undef) p.1 else .undef,
    r := st.r.zipIdx.map fun p => if rs.contains p.2 && p.2 != st.s.length then p.1 else .none }
def canons (T : TT) (j : J) : St → List (Nat × KS) → Option St
 | st, [] => some st
 | st, (d, k) :: ks => match canon1 T j st d k with | some st1 => canons T j st1 ks | none => none
def ownNames : List (Nat × KS) → List Nat
 | [] => []
 | (d, .own _) :: ks => d :: ownNames ks
 | (d, .tree _) :: ks => d :: ownNames ks
 | (d, .map) :: ks => d :: ownNames ks
 | _ :: ks => ownNames ks
def slotNames : List (Nat × KS) → List Nat
 | [] => []
 | (_, .box _ _) :: ks => slotNames ks
 | (_, .btree _ _) :: ks => slotNames ks
 | (_, .bfz _) :: ks => slotNames ks
 | (_, .bself _) :: ks => slotNames ks
 | (d, _) :: ks => d :: slotNames ks
def outer (st : St) : List Nat := (List.range (st.r.length - (st.s.length + 1))).map fun i => st.s.length + 1 + i
def canon (T : TT) (j : J) (ks : List (Nat × KS)) (bs : List Nat) (st : St) : Option St :=
 match canons T j st ks with
 | some st1 => some (mask (slotNames ks) (bs ++ ownNames ks ++ outer st1) st1)
 | none => none
theorem named_view (h : Rel T w0 S0 F st a w S bx ph) {d : Nat} (hd : d < st.s.length) {e : TypeId} {n : Nat} {cells : List C} (hr : st.r.getD st.s.length .none = .loose [.own e n cells]) (hv : a.tmps.getD d undef = (ph st.s.length 0).v) :
  Rels T w0 S0 F { name st d with s := (name st d).s.set d (.one (.view d 0)) } a w := by
 obtain ⟨h1, h2, h3⟩ := name_rel h hd
 refine ⟨S, _, _, h1.reslot d ⟨e, n, cells, ?_, ?_⟩, ?_⟩
 ·rw [h3, hr]; rfl
 ·rw [hv]; simp
 ·show (name st d).r.getD ((name st d).s.set d _).length .none = .none
  rw [List.length_set, show (name st d).s.length = st.s.length by simp [name, kill]]
  exact h2
theorem named_map (h : Rel T w0 S0 F st a w S bx ph) {d : Nat} (hd : d < st.s.length) {kk : KK} {m : GM} (hr : st.r.getD st.s.length .none = .loose [.map kk m]) (hv : a.tmps.getD d undef = (ph st.s.length 0).v) :
  Rels T w0 S0 F { name st d with s := (name st d).s.set d (.one (.mv d 0)) } a w := by
 obtain ⟨h1, h2, h3⟩ := name_rel h hd
 refine ⟨S, _, _, h1.reslot d ⟨kk, m, ?_, ?_⟩, ?_⟩
 ·rw [h3, hr]; rfl
 ·rw [hv]; simp
 ·show (name st d).r.getD ((name st d).s.set d _).length .none = .none
  rw [List.length_set, show (name st d).s.length = st.s.length by simp [name, kill]]
  exact h2
theorem Rel.boxOwn (h : Rel T w0 S0 F st a w S bx ph) {t o : Nat} {row : List RC} (hr : st.r.getD t .none = .box row) (ho : row[o]? = some (.st .nil)) (e : TypeId) :
  Rel T w0 S0 F { st with r := setCellR st.r t o (.own e 0 []) } a w S bx ph := by
 have hol : o < row.length := (List.getElem?_eq_some_iff.1 ho).1
 have hz : (ph t o).v = .slice none 0 0 := by
  have h1 := h.heap.root t
  rw [hr] at h1
  have h2 := h1.2.1 o hol
  rw [(List.getElem?_eq_some_iff.1 ho).2] at h2
  exact crep_nil h2
 have hg : ∀ u, (setCellR st.r t o (.own e 0 [])).getD u .none = if t = u then .box (row.set o (.own e 0 [])) else st.r.getD u .none := fun u => by
  rw [getD_setCell, hr]; rfl
 have hown : ∀ u κ b, owns (setCellR st.r t o (.own e 0 [])) bx ph u κ b → owns st.r bx ph u κ b := fun u κ b hb => by
  by_cases e1 : t = u
  ·subst e1
   cases κ with
   | none => unfold owns at hb ⊢; rw [hg, if_pos rfl] at hb; rw [hr]; exact hb
   | some p =>
    unfold owns ownOf at hb ⊢
    rw [hg, if_pos rfl] at hb; rw [hr]
    simp only [Root.row, List.getElem?_set] at hb ⊢
    by_cases e2 : o = p
    ·subst e2
     rw [if_pos rfl, if_pos hol] at hb
     simp only [RC.blk, hz] at hb; cases hb
    ·rw [if_neg e2] at hb; exact hb
  ·cases κ with
   | none => unfold owns at hb ⊢; rw [hg, if_neg e1] at hb; exact hb
   | some p => unfold owns at hb ⊢; rw [hg, if_neg e1] at hb; exact hb
 refine ⟨h.size, ⟨by simp only [setCellR, List.length_set]; exact h.rsize.1, h.rsize.2⟩, h.defers, ⟨fun u => ?_, fun u κ u' κ' b h1 h2 => h.heap.inj _ _ _ _ b (hown _ _ _ h1) (hown _ _ _ h2), fun u κ b h1 => h.heap.free _ _ b (hown _ _ _ h1), h.heap.low⟩, fun u κ b h1 => h.mine _ _ b (hown _ _ _ h1), fun i hi => ?_, h.keep, h.new, h.chg⟩
 ·show RootRep T w S (bx u) (ph u) ((setCellR st.r t o (.own e 0 [])).getD u .none)
  rw [getD_setCell]
  by_cases e1 : t = u
  ·subst e1
   rw [if_pos rfl]
   exact (h.heap.root t).setCell (fun _ => ⟨[], by rw [hz]; exact World.ownsRow_nil _ _ _ _, rfl, fun k hk => absurd hk (by simp)⟩) rfl
  ·rw [if_neg e1]; exact h.heap.root u
 ·refine (h.slot i hi).mono fun v x hx => hx.congr2 (fun u p e2 n cells hv => ?_) (fun u p kk m hv => ?_) (fun u p sh2 c2 hp2 hv => ?_) fun u row2 hv => ?_
  ·refine ⟨cells, ?_⟩
   rw [hg]
   by_cases e1 : t = u
   ·subst e1; rw [hr] at hv; rw [if_pos rfl]
    simp only [Root.row, List.getElem?_set] at hv ⊢
    by_cases e3 : o = p
    ·subst e3; rw [ho] at hv; cases hv
    ·rw [if_neg e3]; exact hv
   ·rw [if_neg e1]; exact hv
  ·refine ⟨kk, m, ?_⟩
   rw [hg]
   by_cases e1 : t = u
   ·subst e1; rw [hr] at hv; rw [if_pos rfl]
    simp only [Root.row, List.getElem?_set] at hv ⊢
    by_cases e3 : o = p
    ·subst e3; rw [ho] at hv; cases hv
    ·rw [if_neg e3]; exact hv
   ·rw [if_neg e1]; exact hv
  ·refine ⟨c2, hp2, ?_⟩
   rw [hg]
   by_cases e1 : t = u
   ·subst e1; rw [hr] at hv; rw [if_pos rfl]
    simp only [Root.row, List.getElem?_set] at hv ⊢
    by_cases e3 : o = p
    ·subst e3; rw [ho] at hv; cases hv
    ·rw [if_neg e3]; exact hv
   ·rw [if_neg e1]; exact hv
  ·rw [hg]
   by_cases e1 : t = u
   ·subst e1; rw [hr] at hv; cases hv; rw [if_pos rfl]; exact ⟨_, rfl, by simp⟩
   ·rw [if_neg e1]; exact ⟨row2, hv, rfl⟩
theorem named_tree (h : Rel T w0 S0 F st a w S bx ph) {d : Nat} (hd : d < st.s.length) {sh : Sh} {c : C} {hh : Option Path} (hr : st.r.getD st.s.length .none = .loose [.tree sh c hh]) (hv : a.tmps.getD d undef = (ph st.s.length 0).v) (hn : hh = none) :
  Rels T w0 S0 F { name st d with s := (name st d).s.set d (.one (.tv d 0 [])) } a w := by
 subst hn
 obtain ⟨h1, h2, h3⟩ := name_rel h hd
 have hcell : ((name st d).r.getD d .none).row[0]? = some (.tree sh c none) := by rw [h3, hr]; rfl
 have hx := rcX_sound (st := name st d) h1.heap hcell
 refine ⟨S, _, _, h1.reslot d (V := .one (.tv d 0 [])) ?_, ?_⟩
 ·rw [hv]
  simp only [if_pos] at hx
  exact hx
 ·show (name st d).r.getD ((name st d).s.set d _).length .none = .none
  rw [List.length_set, show (name st d).s.length = st.s.length by simp [name, kill]]
  exact h2
theorem RootRep.setMe {row : List RC} {b : Nat} {φ : Nat → Pv} {o : Nat} (h : RootRep T w S b φ (.box row)) (hm : meOk none b (φ o).v) : RootRep T w S b φ (.box (row.set o (.me none))) := by
 obtain ⟨⟨arr, e, h1, h2, h3⟩, h4, h5⟩ := h
 refine ⟨⟨arr, e, h1, by simp [h2], fun k hk => h3 k (by simpa using hk)⟩, fun k hk => ?_, fun k f hk => ?_⟩
 ·rw [List.getElem_set]
  split
  ·trivial
  ·exact h4 k (by simpa using hk)
 ·rw [List.getElem?_set] at hk
  split at hk
  ·rename_i e; subst e
   split at hk
   ·cases hk; exact hm
   ·cases hk
  ·exact h5 k f hk
theorem Rel.boxSelf (h : Rel T w0 S0 F st a w S bx ph) {t o : Nat} {row : List RC} (hr : st.r.getD t .none = .box row) (ho : row[o]? = some (.st (.val (.pointer none)))) :
  Rel T w0 S0 F { st with r := setCellR st.r t o (.me none) } a w S bx ph := by
 have hol : o < row.length := (List.getElem?_eq_some_iff.1 ho).1
 have hz : (ph t o).v = .pointer none := by
  have h1 := h.heap.root t
  rw [hr] at h1
  have h2 := h1.2.1 o hol
  rw [(List.getElem?_eq_some_iff.1 ho).2] at h2
  exact (crep_val h2).1
 have hg : ∀ u, (setCellR st.r t o (.me none)).getD u .none = if t = u then .box (row.set o (.me none)) else st.r.getD u .none := fun u => by
  rw [getD_setCell, hr]; rfl
 have hown : ∀ u κ b, owns (setCellR st.r t o (.me none)) bx ph u κ b → owns st.r bx ph u κ b := fun u κ b hb => by
  by_cases e1 : t = u
  ·subst e1
   cases κ with
   | none => unfold owns at hb ⊢; rw [hg, if_pos rfl] at hb; rw [hr]; exact hb
   | some p =>
    unfold owns ownOf at hb ⊢
    rw [hg, if_pos rfl] at hb; rw [hr]
    simp only [Root.row, List.getElem?_set] at hb ⊢
    by_cases e2 : o = p
    ·subst e2
     rw [if_pos rfl, if_pos hol] at hb
     exact hb.elim
    ·rw [if_neg e2] at hb; exact hb
  ·cases κ with
   | none => unfold owns at hb ⊢; rw [hg, if_neg e1] at hb; exact hb
   | some p => unfold owns at hb ⊢; rw [hg, if_neg e1] at hb; exact hb
 refine ⟨h.size, ⟨by simp only [setCellR, List.length_set]; exact h.rsize.1, h.rsize.2⟩, h.defers, ⟨fun u => ?_, fun u κ u' κ' b h1 h2 => h.heap.inj _ _ _ _ b (hown _ _ _ h1) (hown _ _ _ h2), fun u κ b h1 => h.heap.free _ _ b (hown _ _ _ h1), h.heap.low⟩, fun u κ b h1 => h.mine _ _ b (hown _ _ _ h1), fun i hi => ?_, h.keep, h.new, h.chg⟩
 ·show RootRep T w S (bx u) (ph u) ((setCellR st.r t o (.me none)).getD u .none)
  rw [getD_setCell]
  by_cases e1 : t = u
  ·subst e1
   rw [if_pos rfl]
   have h1 := h.heap.root t
   rw [hr] at h1 ⊢
   exact h1.setMe (.inl hz)
  ·rw [if_neg e1]; exact h.heap.root u
 ·refine (h.slot i hi).mono fun v x hx => hx.congr2 (fun u p e2 n cells hv => ?_) (fun u p kk m hv => ?_) (fun u p sh2 c2 hp2 hv => ?_) fun u row2 hv => ?_
  ·refine ⟨cells, ?_⟩
   rw [hg]
   by_cases e1 : t = u
   ·subst e1; rw [hr] at hv; rw [if_pos rfl]
    simp only [Root.row, List.getElem?_set] at hv ⊢
    by_cases e3 : o = p
    ·subst e3; rw [ho] at hv; cases hv
    ·rw [if_neg e3]; exact hv
   ·rw [if_neg e1]; exact hv
  ·refine ⟨kk, m, ?_⟩
   rw [hg]
   by_cases e1 : t = u
   ·subst e1; rw [hr] at hv; rw [if_pos rfl]
    simp only [Root.row, List.getElem?_set] at hv ⊢
    by_cases e3 : o = p
    ·subst e3; rw [ho] at hv; cases hv
    ·rw [if_neg e3]; exact hv
   ·rw [if_neg e1]; exact hv
  ·refine ⟨c2, hp2, ?_⟩
   rw [hg]
   by_cases e1 : t = u
   ·subst e1; rw [hr] at hv; rw [if_pos rfl]
    simp only [Root.row, List.getElem?_set] at hv ⊢
    by_cases e3 : o = p
    ·subst e3; rw [ho] at hv; cases hv
    ·rw [if_neg e3]; exact hv
   ·rw [if_neg e1]; exact hv
  ·rw [hg]
   by_cases e1 : t = u
   ·subst e1; rw [hr] at hv; cases hv; rw [if_pos rfl]; exact ⟨_, rfl, by simp⟩
   ·rw [if_neg e1]; exact ⟨row2, hv, rfl⟩
theorem Rel.boxTree (h : Rel T w0 S0 F st a w S bx ph) {t o : Nat} {row : List RC} (hr : st.r.getD t .none = .box row) (ho : row[o]? = some (.st .nil)) (e : TypeId) (ks : List Sh) :
    ∃ ph', Rel T w0 S0 F { st with r := setCellR st.r t o (.tree (.sl e ks) (.sl 0 []) none) } a w S bx ph' := by
  have hc : (st.r.getD t .none).row[o]? = some (.st .nil) := by rw [hr]; exact ho
  have hz := crep_nil (h.heap.cell hc)
  obtain ⟨h1, _⟩ := tree_turn h (rc0 := .st .nil) (pv' := .mk nilSl none []) (W := fun _ => False) (sh := .sl e ks) (c' := .sl 0 []) (hh' := none) hc (Chg.refl _ w) (fun _ hf => hf.elim) hz.symm
    ⟨.nil (.inr rfl), by simp [Pv.blks, blksL], ⟨_, _, rfl⟩, fun p hp => by cases hp⟩ (fun b hb => by simp [Pv.blks, blksL] at hb) (fun _ => false) (fun y v _ hoc hy => by
      rcases ofCell_cases hoc with rfl | ⟨lo, hi, rfl⟩ | ⟨k, rfl⟩ | rfl | ⟨p', rfl⟩ | ⟨p', k, off, rfl⟩
      · obtain ⟨_, _, _, h1, _⟩ := hy; rw [hc] at h1; cases h1
      · obtain ⟨_, _, _, _, _, _, h1, _⟩ := hy; rw [hc] at h1; cases h1
      · obtain ⟨_, _, _, _, _, h1, _⟩ := hy; rw [hc] at h1; cases h1
      · obtain ⟨_, _, h1, _⟩ := hy; rw [hc] at h1; cases h1
      · obtain ⟨_, _, _, _, h1, _⟩ := hy; rw [hc] at h1; cases h1
      · obtain ⟨_, _, _, _, _, _, _, _, _, h1, _⟩ := hy; rw [hc] at h1; cases h1)
  have e1 : kill (fun _ => false) st.s = st.s := by unfold kill; simp only [Bool.false_eq_true, if_false]; exact map_id' _
  rw [e1] at h1
  exact ⟨_, h1⟩
theorem canon1_le {d : Nat} {k : KS} (hc : canon1 T (std P T) st d k = some st') : Le T st st' := by
 intro w0 S0 F a w hr
 unfold canon1 at hc
 split at hc
 ·cases hc; exact hr
 ·rename_i e
  split at hc
  ·rename_i hd
   obtain ⟨S, bx, ph, h, hsp⟩ := hr
   have hslot := h.slot d hd
   split at hc
   ·rename_i hx
    cases hc
    rw [hx] at hslot
    have hz := crep_nil hslot
    have hrc : RCRep T w S (.of (a.tmps.getD d undef)) (.own e 0 []) :=
     ⟨[], by rw [hz]; exact World.ownsRow_nil _ _ _ _, rfl, fun k hk => absurd hk (by simp)⟩
    obtain ⟨h1, h2⟩ := pushOwn h hsp hrc (fun b hb => by have hb2 : (a.tmps.getD d undef).ownBlock = some b := hb; rw [hz] at hb2; cases hb2)
    refine named_view h1 hd h2 ?_
    show _ = (phPush ph st.s.length 0 _ st.s.length 0).v
    unfold phPush; rw [if_pos ⟨rfl, rfl⟩]; rfl
   ·rename_i x _ hx
    split at hc
    ·rename_i st1 hp
     split at hc
     ·rename_i e' n cells hrow
      cases hc
      rw [hx] at hslot
      have hb : ∀ row, st.r.getD st.s.length .none ≠ .box row := by rw [hsp]; exact fun _ h => by cases h
      obtain ⟨ph', q, _⟩ := push_sound h hb hslot hp
      have hl0 : (st.r.getD st.s.length .none).row = [] := by rw [hsp]; rfl
      have hv := q.vals 0 (by simp)
      rw [hl0] at hv
      have hroot : st1.r.getD st1.s.length .none = .loose [.own e' n cells] := by
       have h3 := q.loose
       rw [← q.len] at h3
       unfold rootOf at hrow
       cases hR : st1.r.getD st1.s.length .none with
       | none => rw [hR] at hrow; cases hrow
       | box row => exact absurd hR (h3 row)
       | loose row => rw [hR] at hrow; simp only [Root.row] at hrow; rw [hrow]
      refine named_view q.rel (by rw [q.len]; exact hd) hroot ?_
      rw [q.len]
      simpa using hv.symm
     ·cases hc
    ·cases hc
   ·cases hc
  ·cases hc
 ·split at hc
  ·rename_i hd
   obtain ⟨S, bx, ph, h, hsp⟩ := hr
   have hslot := h.slot d hd
   split at hc
   ·rename_i t o hx
    split at hc
    ·rename_i st1 hp
     split at hc
     ·rename_i kk m hrow
      cases hc
      rw [hx] at hslot
      have hb : ∀ row, st.r.getD st.s.length .none ≠ .box row := by rw [hsp]; exact fun _ h => by cases h
      obtain ⟨ph', q, _⟩ := push_sound h hb (x := .mv t o) hslot hp
      have hl0 : (st.r.getD st.s.length .none).row = [] := by rw [hsp]; rfl
      have hv := q.vals 0 (by simp)
      rw [hl0] at hv
      have hroot : st1.r.getD st1.s.length .none = .loose [.map kk m] := by
       have h3 := q.loose
       rw [← q.len] at h3
       unfold rootOf at hrow
       cases hR : st1.r.getD st1.s.length .none with
       | none => rw [hR] at hrow; cases hrow
       | box row => exact absurd hR (h3 row)
       | loose row => rw [hR] at hrow; simp only [Root.row] at hrow; rw [hrow]
      refine named_map q.rel (by rw [q.len]; exact hd) hroot ?_
      rw [q.len]
      simpa using hv.symm
     ·cases hc
    ·cases hc
   ·cases hc
  ·cases hc
 ·split at hc
  ·rename_i hd
   obtain ⟨S, bx, ph, h, hsp⟩ := hr
   have hslot := h.slot d hd
   split at hc
   ·rename_i hx
    cases hc
    rw [hx] at hslot
    have hz := crep_nil hslot
    refine ⟨S, bx, ph, h.reslot d (V := .one (.c (.sl 0 []))) ?_, by show st.r.getD (st.s.set d _).length .none = .none; rw [List.length_set]; exact hsp⟩
    rw [hz]; exact CRep.sl0
   ·rename_i x _ hx
    cases hc
    obtain ⟨S', h1, _⟩ := freezeX_sound (P := P) h x
    exact ⟨S', bx, ph, h1.rel, by rw [h1.len]; exact h1.spare _ hsp⟩
   ·cases hc
  ·cases hc
 ·rename_i sh
  split at hc
  ·rename_i hd
   obtain ⟨S, bx, ph, h, hsp⟩ := hr
   have hslot := h.slot d hd
   split at hc
   ·rename_i hx
    split at hc
    ·rename_i e ks
     cases hc
     rw [hx] at hslot
     have hz := crep_nil hslot
     have hrc : RCRep T w S (.mk nilSl none []) (.tree (.sl e ks) (.sl 0 []) none) := ⟨.nil (.inr rfl), by simp [Pv.blks, blksL], ⟨_, _, rfl⟩, fun p hp => by cases hp⟩
     obtain ⟨h1, h2⟩ := pushOwn h hsp hrc (fun b hb => by simp [RC.blk, Pv.blks, blksL] at hb)
     refine named_tree h1 hd h2 ?_ rfl
     rw [hz]
     show _ = (phPush ph st.s.length 0 _ st.s.length 0).v
     unfold phPush; rw [if_pos ⟨rfl, rfl⟩]; rfl
    ·cases hc
   ·rename_i x _ hx
    split at hc
    ·rename_i st1 hp
     split at hc
     ·rename_i sh' c' hrow
      cases hc
      rw [hx] at hslot
      have hb : ∀ row, st.r.getD st.s.length .none ≠ .box row := by rw [hsp]; exact fun _ h => by cases h
      obtain ⟨ph', q, _⟩ := push_sound h hb (x := x) hslot hp
      have hl0 : (st.r.getD st.s.length .none).row = [] := by rw [hsp]; rfl
      have hv := q.vals 0 (by simp)
      rw [hl0] at hv
      have hroot : st1.r.getD st1.s.length .none = .loose [.tree sh' c' none] := by
       have h3 := q.loose
       rw [← q.len] at h3
       unfold rootOf at hrow
       cases hR : st1.r.getD st1.s.length .none with
       | none => rw [hR] at hrow; cases hrow
       | box row => exact absurd hR (h3 row)
       | loose row => rw [hR] at hrow; simp only [Root.row] at hrow; rw [hrow]
      refine named_tree q.rel (by rw [q.len]; exact hd) hroot ?_ rfl
      rw [q.len]
      simpa using hv.symm
     ·cases hc
    ·cases hc
   ·cases hc
  ·cases hc
 ·split at hc
  ·rename_i row hrow
   split at hc
   ·rename_i ho
    split at hc
    ·rename_i e ks
     cases hc
     obtain ⟨S, bx, ph, h, hsp⟩ := hr
     obtain ⟨ph', h1⟩ := h.boxTree hrow ho e ks
     refine ⟨S, bx, ph', h1, ?_⟩
     show (setCellR st.r d _ _).getD st.s.length .none = .none
     rw [getD_setCell]
     by_cases e1 : d = st.s.length
     ·subst e1; rw [hsp] at hrow; cases hrow
     ·rw [if_neg e1]; exact hsp
    ·cases hc
   ·cases hc; exact hr
   ·cases hc
  ·cases hc
 ·split at hc
  ·rename_i row hrow
   split at hc
   ·rename_i ho
    cases hc
    obtain ⟨S, bx, ph, h, hsp⟩ := hr
    refine ⟨S, bx, ph, h.boxSelf hrow ho, ?_⟩
    show (setCellR st.r d _ _).getD st.s.length .none = .none
    rw [getD_setCell]
    by_cases e1 : d = st.s.length
    ·subst e1; rw [hsp] at hrow; cases hrow
    ·rw [if_neg e1]; exact hsp
   ·cases hc; exact hr
   ·cases hc
  ·cases hc
 ·split at hc
  ·rename_i row hrow
   split at hc
   ·rename_i ho
    cases hc
    obtain ⟨S, bx, ph, h, hsp⟩ := hr
    refine ⟨S, bx, ph, h.boxOwn hrow ho _, ?_⟩
    show (setCellR st.r d _ _).getD st.s.length .none = .none
    rw [getD_setCell]
    by_cases e1 : d = st.s.length
    ·subst e1; rw [hsp] at hrow; cases hrow
    ·rw [if_neg e1]; exact hsp
   ·cases hc; exact hr
   ·cases hc
  ·cases hc
 ·split at hc
  ·split at hc
   ·cases hc
    obtain ⟨S, bx, ph, h, hsp⟩ := hr
    obtain ⟨S', h1, _⟩ := freeze_sound (P := P) h d _
    exact ⟨S', bx, ph, h1.rel, by rw [h1.len]; exact h1.spare _ hsp⟩
   ·cases hc
    obtain ⟨S, bx, ph, h, hsp⟩ := hr
    obtain ⟨S', h1, _⟩ := freeze_sound (P := P) h d _
    exact ⟨S', bx, ph, h1.rel, by rw [h1.len]; exact h1.spare _ hsp⟩
   ·cases hc; exact hr
   ·cases hc
  ·cases hc
theorem mask_le (ks rs : List Nat) (st : St) : Le T st (mask ks rs st) := by
 rintro w0 S0 F a w ⟨S, bx, ph, h, hsp⟩
 have hlen : (mask ks rs st).s.length = st.s.length := by simp [mask]
 have hg : ∀ t, (mask ks rs st).r.getD t .none = if rs.contains t = true ∧ t ≠ st.s.length then st.r.getD t .none else .none := fun t => by
  simp only [mask, List.getD_eq_getElem?_getD, List.getElem?_map, List.getElem?_zipIdx, Nat.zero_add]
  cases ht : st.r[t]? with
  | none => simp
  | some R =>
   simp only [Option.map_some, Option.getD_some]
   by_cases h1 : rs.contains t = true <;> by_cases h2 : t = st.s.length <;> simp [h1, h2]
 have hown : ∀ t κ b, owns (mask ks rs st).r bx ph t κ b → owns st.r bx ph t κ b := fun t κ b hb => by
  by_cases hc : rs.contains t = true ∧ t ≠ st.s.length
  ·have e : (mask ks rs st).r.getD t .none = st.r.getD t .none := by rw [hg, if_pos hc]
   unfold owns at hb ⊢
   rw [e] at hb; exact hb
  ·exact (owns_none _ _ _ (by rw [hg, if_neg hc]) _ _ hb).elim
 have hx : ∀ v x, XRep T w S st.r bx ph v x → within rs x = true → ofRoot st.s.length x = false → XRep T w S (mask ks rs st).r bx ph v x := fun v x hx hw hn => by
  refine hx.congr (fun t o rc hc _ hv => ?_) (fun t o he row hv hp => ?_) (fun f caps he t ht row hv => ?_)
  ·have h1 : rs.contains t = true ∧ t ≠ st.s.length := by
    rcases ofCell_cases hc with rfl | ⟨lo, hi, rfl⟩ | ⟨k, rfl⟩ | rfl | ⟨p, rfl⟩ | ⟨p, k, off, rfl⟩ <;> exact ⟨hw, by simpa [ofRoot] using hn⟩
   exact ⟨by rw [hg, if_pos h1]; exact hv, rfl⟩
  ·subst he
   have h1 : rs.contains t = true ∧ t ≠ st.s.length := ⟨hw, by simpa [ofRoot] using hn⟩
   exact ⟨row, by rw [hg, if_pos h1]; exact hv, hp, rfl⟩
  ·have h1 : rs.contains t = true ∧ t ≠ st.s.length := ⟨by
    rcases he with rfl | ⟨u, rfl, rfl⟩
    ·exact List.all_eq_true.1 hw t ht
    ·rw [List.mem_singleton.1 ht]; exact hw, fun e => by subst e; rw [ofRoot_caps he ht] at hn; cases hn⟩
   exact ⟨row, by rw [hg, if_pos h1]; exact hv, rfl, rfl⟩
 -- a slot cannot speak of the root of the moment, which is none
 have hnoN : ∀ v x, XRep T w S st.r bx ph v x → ofRoot st.s.length x = false := fun v x hx => by
  cases x with
  | c c => rfl
  | mv t o =>
   obtain ⟨kk, m, h1, _⟩ := hx
   simp only [ofRoot, beq_eq_false_iff_ne]
   rintro rfl; rw [hsp] at h1; simp [Root.row] at h1
  | view t o =>
   obtain ⟨e, n, cells, h1, _⟩ := hx
   simp only [ofRoot, beq_eq_false_iff_ne]
   rintro rfl; rw [hsp] at h1; simp [Root.row] at h1
  | sub t o lo hi =>
   obtain ⟨e, n, cells, _, _, _, h1, _⟩ := hx
   simp only [ofRoot, beq_eq_false_iff_ne]
   rintro rfl; rw [hsp] at h1; simp [Root.row] at h1
  | ptr t o =>
   obtain ⟨row, h1, _⟩ := hx
   simp only [ofRoot, beq_eq_false_iff_ne]
   rintro rfl; rw [hsp] at h1; cases h1
  | eptr t o k =>
   obtain ⟨e, n, cells, _, _, h1, _⟩ := hx
   simp only [ofRoot, beq_eq_false_iff_ne]
   rintro rfl; rw [hsp] at h1; simp [Root.row] at h1
  | tv t o p =>
   obtain ⟨_, _, _, _, h1, _⟩ := hx
   simp only [ofRoot, beq_eq_false_iff_ne]
   rintro rfl; rw [hsp] at h1; simp [Root.row] at h1
  | tp t o p k off =>
   obtain ⟨_, _, _, _, _, _, _, _, _, h1, _⟩ := hx
   simp only [ofRoot, beq_eq_false_iff_ne]
   rintro rfl; rw [hsp] at h1; simp [Root.row] at h1
  | mem cells off => rfl
  | fn f caps =>
   obtain ⟨_, h1⟩ := hx
   cases hh : ofRoot st.s.length (.fn f caps) with
   | false => rfl
   | true =>
    simp only [ofRoot, List.contains_iff_mem] at hh
    obtain ⟨row, h2, _⟩ := h1 _ hh
    rw [hsp] at h2; cases h2
  | bfn f t =>
   obtain ⟨⟨row, h1, _⟩, _⟩ := hx
   simp only [ofRoot, beq_eq_false_iff_ne]
   rintro rfl; rw [hsp] at h1; cases h1
  | undef => rfl
 refine ⟨S, bx, ph, ⟨by rw [hlen]; exact h.size, ⟨by simp only [mask, List.length_map, List.length_zipIdx]; exact h.rsize.1, fun t ht => h.rsize.2 t (by rw [hlen] at ht; exact ht)⟩, h.defers, ⟨fun t => ?_, fun t κ t' κ' b h1 h2 => h.heap.inj _ _ _ _ b (hown _ _ _ h1) (hown _ _ _ h2), fun t κ b h1 => h.heap.free _ _ b (hown _ _ _ h1), h.heap.low⟩, fun t κ b h1 => h.mine _ _ b (hown _ _ _ h1), fun i hi => ?_, h.keep, h.new, h.chg⟩, ?_⟩
 ·rw [hg]; split
  ·exact h.heap.root t
  ·trivial
 ·rw [hlen] at hi
  have h1 := h.slot i hi
  simp only [mask, List.getD_eq_getElem?_getD, List.getElem?_map, List.getElem?_zipIdx, Nat.zero_add, List.getElem?_eq_getElem hi, Option.map_some, Option.getD_some] at h1 ⊢
  split
  ·refine VRep.map _ (fun v x hxr => ?_) h1
   split
   ·rename_i hw; exact hx v x hxr hw (hnoN v x hxr)
   ·trivial
  ·trivial
 ·rw [hlen, hg, if_neg (fun hh => hh.2 rfl)]
theorem canon_le {ks : List (Nat × KS)} {bs : List Nat} (hc : canon T (std P T) ks bs st = some st') : Le T st st' := by
 have key : ∀ (ks : List (Nat × KS)) (st st' : St), canons T (std P T) st ks = some st' → Le T st st' := by
  intro ks
  induction ks with
  | nil => intro st st' h; simp only [canons, Option.some.injEq] at h; subst h; exact Le.refl T st
  | cons k ks ih =>
   intro st st' h
   obtain ⟨d, k⟩ := k
   unfold canons at h
   split at h
   ·rename_i st1 h1
    exact fun w0 S0 F a w hr => ih st1 st' h w0 S0 F a w (canon1_le h1 w0 S0 F a w hr)
   ·cases h
 unfold canon at hc
 split at hc
 ·rename_i st1 h1
  cases hc
  exact fun w0 S0 F a w hr => mask_le _ _ st1 w0 S0 F a w (key ks st st1 h1 w0 S0 F a w hr)
 ·cases hc
end Go.Proofs.Ytcpcghnpoekhpaa.A
/- The ghost machine, part 26: what a function gives. -/
set_option linter.unusedSimpArgs false
set_option linter.unusedVariables false
set_option maxRecDepth 100000
set_option maxHeartbeats 4000000
namespace Go.Proofs.Ytcpcghnpoekhpaa.A
open Go Go.RowKit
variable {P : Program} {T : TT} {w w' w0 : World} {S S0 : Nat → Prop} {F : Fr} {bx : Nat → Nat} {ph : Nat → Nat → Pv} {a : Act} {st st' : St}
inductive LeRC : RC → RC → Prop
 | refl (rc : RC) : LeRC rc rc
 | nil_own (e : TypeId) : LeRC (.st .nil) (.own e 0 [])
 | nil_sl : LeRC (.st .nil) (.st (.sl 0 []))
inductive LeRow : List RC → List RC → Prop
 | nil : LeRow [] []
 | cons {x y : RC} {l r : List RC} : LeRC x y → LeRow l r → LeRow (x :: l) (y :: r)
theorem LeRow.refl : ∀ l : List RC, LeRow l l
 | [] => .nil
 | x :: l => .cons (.refl x) (LeRow.refl l)
theorem LeRow.len {l r : List RC} (h : LeRow l r) : l.length = r.length := by
 induction h with
 | nil => rfl
 | cons _ _ ih => simp [ih]
theorem LeRow.get {l r : List RC} (h : LeRow l r) : ∀ k (h1 : k < l.length) (h2 : k < r.length), LeRC l[k] r[k] := by
 induction h with
 | nil => intro k h1; simp at h1
 | cons hx _ ih =>
  intro k h1 h2
  cases k with
  | zero => exact hx
  | succ k => exact ih k (by simpa using h1) (by simpa using h2)
theorem LeRC.sound {v : Pv} {x y : RC} (h : LeRC x y) (hx : RCRep T w S v x) : RCRep T w S v y ∧ ((∃ e n c, y = .own e n c) → (∃ e n c, x = .own e n c) ∨ v.v.ownBlock = none) := by
 cases h with
 | refl => exact ⟨hx, fun h => .inl h⟩
 | nil_own e =>
  have hz := crep_nil hx
  exact ⟨⟨[], by rw [hz]; exact World.ownsRow_nil _ _ _ _, rfl, fun k hk => absurd hk (by simp)⟩, fun _ => .inr (by rw [hz]; rfl)⟩
 | nil_sl =>
  have hz := crep_nil hx
  exact ⟨by show CRep w S v.v _; rw [hz]; exact .sl0, fun ⟨_, _, _, h⟩ => by cases h⟩
theorem LeRC.me {x : RC} {f : Option FuncId} (h : LeRC x (.me f)) : x = .me f := by cases h; rfl
def resV (T : TT) (j : J) (st : St) : ResultVar → Option (V × List Prop)
 | .tmp t => some (st.s.getD t .undef, [])
 | .cell a t => loadV T j st t (st.s.getD a .undef)
def resVs (T : TT) (j : J) (st : St) : List ResultVar → Option (List V × List Prop)
 | [] => some ([], [])
 | r :: rs => match resV T j st r, resVs T j st rs with | some (v, o), some (vs, os) => some (v :: vs, o ++ os) | _, _ => none
def isAggV : V → Bool
 | .agg _ => true
 | _ => false
def splitRow : List V → List RC → List (Bool × List RC)
 | [], _ => []
 | v :: vs, row => (isAggV v, row.take (cellsOfV v).length) :: splitRow vs (row.drop (cellsOfV v).length)
def retOf (T : TT) (j : J) (rs : List ResultVar) (st : St) : Option (List V × List RC × List Prop) :=
 match resVs T j st rs with
 | some (vs, obl) =>
  if vs.any (fun v => match v with | .one _ | .agg _ => (cellsOfV v).isEmpty && !isAggV v | _ => true) then none else
  match pushAll T j st (vs.flatMap cellsOfV) with
  | some st1 => some (vs, (rootOf st1.r st.s.length).row, obl)
  | none => none
 | none => none
def outsOf (T : TT) (j : J) (rs : List ResultVar) (st : St) : List Root :=
 match resVs T j st rs with
 | some (vs, _) => match pushAll T j st (vs.flatMap cellsOfV) with | some st1 => st1.r.drop (st.s.length + 1) | none => []
 | none => []
inductive LeRoot : Root → Root → Prop
 | none (R : Root) : LeRoot R .none
 | box {l r : List RC} : LeRow l r → LeRoot (.box l) (.box r)
def RetOk (P : Program) (T : TT) (fn : Func) (st : St) (ret : RV) (upd : List Root) (N : Nat) : Prop :=
 (∃ vs row obl row', retOf T (std P T) fn.results.toList st = some (vs, row, obl) ∧ (∀ p ∈ obl, p) ∧ LeRow row row' ∧ ret = ⟨decide (fn.results.size ≠ 1), splitRow vs row'⟩) ∧
  (upd = [] ∨ (st.s.length = N ∧ ∀ (k : Nat) (R : Root), upd[k]? = some R → LeRoot ((outsOf T (std P T) fn.results.toList st).getD k .none) R))
def argV (N i : Nat) : Arg → V
 | .v false [c] => .one (cX c)
 | .v true cs => .agg (cs.map cX)
 | .fn f => .one (.fn f [])
 | .root _ => .one (.ptr (N + 1 + i) 0)
 | .clo f caps => .one (.fn f (caps.map fun t => N + 1 + t))
 | _ => .undef
def Root.isBox : Root → Bool
 | .box (_ :: _) => true
 | _ => false
def rootless : List Arg → Bool
 | [] => true
 | .root _ :: _ => false
 | .virt _ :: _ => false
 | _ :: as9 => rootless as9
def argsOk (args : List Arg) : Bool :=
 (args.drop (reals args)).all (fun x => !x.real) && (args.take (reals args)).all Arg.real && args.all (fun x => match x with | .root R | .virt R => R.isBox | .clo _ caps => caps.all (fun t => match args[t]? with | some x => x.asRoot.isBox | none => false) | _ => true)
def entry (n : Nat) (args : List Arg) : St :=
  { s := (args.take (reals args)).zipIdx.map (fun p => argV (reals args + (n - reals args)) p.2 p.1) ++ List.replicate (n - reals args) .undef,
    r := List.replicate (reals args + (n - reals args) + 1) .none ++ (if rootless args then [] else args.map Arg.asRoot) }
def resRun (a : Act) : ResultVar → Sem Value
 | .tmp t => pure (a.tmps.getD t undef)
 | .cell t ty => do loadVar ty (← asAddr (a.tmps.getD t undef))
theorem resV_sound (hT : TOk P T) (h : Rel T w0 S0 F st a w S bx ph) {r : ResultVar} {V : V} {obl : List Prop} (hp : resV T (std P T) st r = some (V, obl)) (ho : ∀ p ∈ obl, p) :
  ∃ z, (resRun a r).run P w = .ok z w ∧ VRep T w S st.r bx ph z V := by
 cases r with
 | tmp t =>
  cases hp
  exact ⟨_, rfl, ev_sound h (.tmp t)⟩
 | cell t ty =>
  have hu := ev_sound h (.tmp t)
  obtain ⟨z, h1, h2⟩ := load_sound hT h.heap hu hp ho
  refine ⟨z, ?_, h2⟩
  have h3 := h1 w (Keep.refl _ _ _ _ _)
  have hptr : ∃ ad, a.eval (.tmp t) = .pointer (some ad) := by
   have hp' : loadV T (std P T) st ty (st.s.getD t .undef) = some (V, obl) := hp
   unfold loadV at hp'
   split at hp'
   ·split at hp'
    ·cases hp'
    ·split at hp'
     ·rename_i hx
      rw [show ev st.s (.tmp t) = st.s.getD t .undef from rfl, hx] at hu
      obtain ⟨_, _, _, q⟩ := hu; exact ⟨_, q⟩
     ·rename_i hx
      rw [show ev st.s (.tmp t) = st.s.getD t .undef from rfl, hx] at hu
      obtain ⟨_, _, _, _, _, _, _, q⟩ := hu; exact ⟨_, q⟩
     ·rename_i hx
      rw [show ev st.s (.tmp t) = st.s.getD t .undef from rfl, hx] at hu
      obtain ⟨_, _, _, q, _⟩ := hu; exact ⟨_, q⟩
     ·rename_i hx
      rw [show ev st.s (.tmp t) = st.s.getD t .undef from rfl, hx] at hu
      obtain ⟨_, _, _, _, _, _, _, _, _, _, _, _, _, _, _, _, q⟩ := hu; exact ⟨_, q⟩
     ·cases hp'
   ·cases hp'
  obtain ⟨ad, had⟩ := hptr
  have had' : a.tmps.getD t undef = .pointer (some ad) := had
  rw [had] at h3
  simp only [Instr.loadAt, Instr.sureAddr, Sem.run_bind, Sem.run_pure, Result.andThen_ok] at h3
  simp only [resRun, had', asAddr, Sem.run_bind, Sem.run_pure, Result.andThen_ok]
  exact h3
theorem resVs_sound (hT : TOk P T) (h : Rel T w0 S0 F st a w S bx ph) : ∀ (rs : List ResultVar) (vs : List V) (obl : List Prop), resVs T (std P T) st rs = some (vs, obl) → (∀ p ∈ obl, p) →
  ∃ zs : List Value, (rs.mapM (resRun a)).run P w = .ok zs w ∧ zs.length = vs.length ∧ zs.length = rs.length ∧
   ∀ k (h1 : k < vs.length) (h2 : k < zs.length), VRep T w S st.r bx ph zs[k] vs[k] := by
 intro rs
 induction rs with
 | nil =>
  intro vs obl hp _
  simp only [resVs, Option.some.injEq, Prod.mk.injEq] at hp
  obtain ⟨rfl, rfl⟩ := hp
  exact ⟨[], by simp, rfl, rfl, fun k hk => absurd hk (by simp)⟩
 | cons r rs ih =>
  intro vs obl hp ho
  unfold resVs at hp
  split at hp
  ·rename_i v o vs' os h1 h2
   cases hp
   obtain ⟨z, z1, z2⟩ := resV_sound hT h h1 (fun p hp => ho p (List.mem_append_left _ hp))
   obtain ⟨zs, y1, y2, y3, y4⟩ := ih vs' os h2 (fun p hp => ho p (List.mem_append_right _ hp))
   refine ⟨z :: zs, ?_, by simp [y2], by simp [y3], fun k h1 h2 => ?_⟩
   ·simp only [List.mapM_cons, Sem.run_bind, z1, Result.andThen_ok, y1, Sem.run_pure]
   ·cases k with
    | zero => exact z2
    | succ k => exact y4 k (by simpa using h1) (by simpa using h2)
  ·cases hp
theorem split_sound {vs : List V} {zs : List Value} (h : Heap T w S st.r bx ph) {φ : Nat → Pv} : ∀ (vs : List V) (zs : List Value) (row : List RC) (o : Nat), zs.length = vs.length → (∀ k (h1 : k < vs.length) (h2 : k < zs.length), VRep T w S st.r bx ph zs[k] vs[k]) →
  (∀ v ∈ vs, (∃ x, v = .one x ∧ x ≠ .undef) ∨ ∃ xs, v = .agg xs) → row.length = (vs.flatMap cellsOfV).length → (∀ k (hk : k < (zs.flatMap fun z => z.cells.toList).length), φ (o + k) = (zs.flatMap fun z => z.cells.toList)[k]) →
  PartVals φ o zs (splitRow vs row) := by
 intro vs
 induction vs with
 | nil =>
  intro zs row o hl _ _ _ _
  have : zs = [] := List.eq_nil_of_length_eq_zero hl
  subst this; trivial
 | cons v vs ih =>
  intro zs row o hl hv hform hrow hφ
  cases zs with
  | nil => simp at hl
  | cons z zs =>
   have hz : VRep T w S st.r bx ph z v := hv 0 (by simp) (by simp)
   have hcells : z.cells.size = (cellsOfV v).length ∧ (isAggV v = true → z = .agg z.cells) ∧ (isAggV v = false → z.cells = #[z]) := by
    rcases hform v (List.mem_cons_self ..) with ⟨x, rfl, hx⟩ | ⟨xs, rfl⟩
    ·have h1 := cells_one h hx hz
     refine ⟨?_, (fun hh => by cases hh), fun _ => h1⟩
     rw [h1]; cases x <;> first | rfl | exact absurd rfl hx
    ·obtain ⟨cs, rfl, h2⟩ := hz
     exact ⟨h2.1, fun _ => rfl, fun hh => by cases hh⟩
   obtain ⟨c1, c2, c3⟩ := hcells
   have hfl : ((z :: zs).flatMap fun z => z.cells.toList) = z.cells.toList ++ (zs.flatMap fun z => z.cells.toList) := List.flatMap_cons ..
   have hrow' : row.length = (cellsOfV v).length + (vs.flatMap cellsOfV).length := by rw [hrow, List.flatMap_cons, List.length_append]
   have hzl : z.cells.toList.length = (cellsOfV v).length := (Array.length_toList).trans c1
   have htl : (row.take (cellsOfV v).length).length = (cellsOfV v).length := by rw [List.length_take]; omega
   have hφ0 : ∀ k (hk : k < z.cells.size), φ (o + k) = z.cells[k] := fun k hk => by
    have hk2 : k < ((z :: zs).flatMap fun z => z.cells.toList).length := by rw [hfl, List.length_append, Array.length_toList]; omega
    have hk3 : k < z.cells.toList.length := by simpa using hk
    rw [hφ k hk2]
    refine get_of hk2 ?_
    rw [hfl, List.getElem?_append_left hk3, List.getElem?_eq_getElem hk3]; simp
   refine ⟨?_, ?_⟩
   ·unfold PartVal
    dsimp only
    cases ha : isAggV v with
    | true =>
     simp only [if_true]
     exact ⟨z.cells, c2 ha, by rw [htl, c1], fun k hk => (hφ0 k hk).symm⟩
    | false =>
     simp only [Bool.false_eq_true, if_false]
     have h1 := c3 ha
     have hs1 : z.cells.size = 1 := by rw [h1]; rfl
     refine ⟨by rw [htl, ← c1, hs1], ?_⟩
     have := hφ0 0 (by omega)
     rw [Nat.add_zero] at this
     rw [this]
     simp only [h1]; rfl
   ·show PartVals φ (o + (row.take (cellsOfV v).length).length) zs (splitRow vs (row.drop (cellsOfV v).length))
    rw [htl]
    refine ih zs _ _ (by simpa using hl) (fun k h1 h2 => hv (k + 1) (by simp; omega) (by simp; omega)) (fun v hv => hform v (List.mem_cons_of_mem _ hv)) (by rw [List.length_drop]; omega) (fun k hk => ?_)
    have hk2 : (cellsOfV v).length + k < ((z :: zs).flatMap fun z => z.cells.toList).length := by rw [hfl, List.length_append, hzl]; exact Nat.add_lt_add_left hk _
    rw [Nat.add_assoc, hφ _ hk2]
    refine get_of hk2 ?_
    rw [hfl, List.getElem?_append_right (by rw [hzl]; omega), hzl, Nat.add_sub_cancel_left, List.getElem?_eq_getElem hk]
theorem split_flat : ∀ (vs : List V) (row : List RC), row.length = (vs.flatMap cellsOfV).length → (splitRow vs row).flatMap (·.2) = row := by
 intro vs
 induction vs with
 | nil => intro row h; have : row = [] := List.eq_nil_of_length_eq_zero (by simpa using h); subst this; rfl
 | cons v vs ih =>
  intro row h
  rw [List.flatMap_cons, List.length_append] at h
  show (row.take _) ++ ((splitRow vs (row.drop _)).flatMap (·.2)) = row
  rw [ih _ (by rw [List.length_drop]; omega), List.take_append_drop]
theorem rootless_none : ∀ (args : List Arg), rootless args = true → ∀ t, (args.map Arg.asRoot).getD t .none = .none := by
  intro args
  induction args with
  | nil => intro _ t; rfl
  | cons x args ih =>
    intro h t
    cases x <;> simp only [rootless, Bool.false_eq_true] at h <;> (cases t with
      | zero => rfl
      | succ t => exact ih h t)
def entF (n : Nat) (args : List Arg) (bx : Nat → Nat) (ph : Nat → Nat → Pv) : Fr := ⟨fun b => ∃ t κ, owns (args.map Arg.asRoot) bx ph t κ b, fun t => bx (t - (reals args + (n - reals args) + 1)), []⟩
theorem isBox_some {R : Root} (h : R.isBox = true) : ∃ row, R = .box row ∧ 0 < row.length := by
 cases R with
 | none => cases h
 | loose _ => cases h
 | box row => cases row with
  | nil => cases h
  | cons x r => exact ⟨_, rfl, by simp⟩
theorem entry_rels {n : Nat} {args : List Arg} {vs : List Value} (hheap : Heap T w S (args.map Arg.asRoot) bx ph) (hl : vs.length = reals args) (hok : argsOk args = true) (ha : ∀ i (h : i < args.length) (h2 : i < vs.length), ArgRep w S bx (bx i) vs[i] args[i]) :
  Rels T w S (entF n args bx ph) (entry n args) { tmps := vs.toArray ++ Array.replicate (n - vs.toArray.size) undef, defers := [] } w := by
 have hle : reals args ≤ args.length := List.length_filter_le _ _
 generalize hN : reals args + (n - reals args) = N
 have hslen : (entry n args).s.length = N := by simp [entry]; omega
 have hg : ∀ t, (entry n args).r.getD t .none = if t < N + 1 then .none else (args.map Arg.asRoot).getD (t - (N + 1)) .none := fun t => by
  simp only [entry, List.getD_eq_getElem?_getD, hN]
  by_cases ht : t < N + 1
  ·rw [if_pos ht, List.getElem?_append_left (by simpa using ht), List.getElem?_replicate]; split <;> rfl
  ·rw [if_neg ht, List.getElem?_append_right (by simpa using ht), List.length_replicate]
   cases hq : rootless args with
   | true =>
    have := rootless_none args hq (t - (N + 1))
    rw [List.getD_eq_getElem?_getD] at this
    rw [this]; rfl
   | false => simp
 have hgr : ∀ i, (entry n args).r.getD (N + 1 + i) .none = (args.map Arg.asRoot).getD i .none := fun i => by
  rw [hg, if_neg (by omega), show N + 1 + i - (N + 1) = i by omega]
 have hown : ∀ t κ b, owns (entry n args).r (fun t => bx (t - (N + 1))) (fun t => ph (t - (N + 1))) t κ b → N + 1 ≤ t ∧ owns (args.map Arg.asRoot) bx ph (t - (N + 1)) κ b := fun t κ b hb => by
  by_cases ht : t < N + 1
  ·exact (owns_none _ _ _ (by rw [hg, if_pos ht]) _ _ hb).elim
  ·refine ⟨by omega, ?_⟩
   unfold owns at hb ⊢
   rw [hg, if_neg ht] at hb
   exact hb
 simp only [argsOk, Bool.and_eq_true] at hok
 obtain ⟨⟨_, hreal⟩, hbox⟩ := hok
 have hrb : ∀ i (h : i < args.length), args[i].asRoot.isBox = true → ∃ row, (entry n args).r.getD (N + 1 + i) .none = .box row ∧ 0 < row.length := fun i h h2 => by
  obtain ⟨row, h3, h4⟩ := isBox_some h2
  refine ⟨row, ?_, h4⟩
  rw [hgr, List.getD_eq_getElem?_getD, List.getElem?_map, List.getElem?_eq_getElem h]
  simpa using h3
 refine ⟨S, fun t => bx (t - (N + 1)), fun t => ph (t - (N + 1)), ⟨by rw [hslen]; simp [hl]; omega, ⟨by rw [hslen]; simp [entry]; omega, fun t _ => by unfold entF; rw [hN]⟩, rfl, ⟨fun t => ?_, fun t κ t' κ' b h1 h2 => ?_, fun t κ b h1 => hheap.free _ _ b (hown t κ b h1).2, hheap.low⟩, fun t κ b h1 => .inr ⟨_, _, (hown t κ b h1).2⟩, fun i hi => ?_, fun _ h => h, fun _ h => .inl h, Chg.refl _ _⟩, by rw [hslen, hg, if_pos (by omega)]⟩
 ·rw [hg]; split
  ·trivial
  ·exact hheap.root _
 ·obtain ⟨a1, a2⟩ := hown t κ b h1
  obtain ⟨b1, b2⟩ := hown t' κ' b h2
  obtain ⟨e1, e2⟩ := hheap.inj _ _ _ _ b a2 b2
  exact ⟨by omega, e2⟩
 ·by_cases h1 : i < reals args
  ·have h2 : i < vs.length := by omega
   have h1a : i < args.length := by omega
   have e1 : (entry n args).s.getD i .undef = argV N i args[i] := by
    simp only [entry, List.getD_eq_getElem?_getD, hN]
    rw [List.getElem?_append_left (by simp; omega)]
    simp only [List.getElem?_map, List.getElem?_zipIdx, List.getElem?_take]
    rw [if_pos h1, List.getElem?_eq_getElem h1a]; simp
   have e2 : (vs.toArray ++ Array.replicate (n - vs.toArray.size) undef).getD i undef = vs[i] := by
    rw [Array.getD_eq_getD_getElem?, Array.getElem?_append_left (by simpa using h2)]; simp [h2]
   show VRep T w S (entry n args).r _ _ ((vs.toArray ++ Array.replicate (n - vs.toArray.size) undef).getD i undef) _
   rw [e1, e2]
   have h3 := ha i h1a h2
   have h4 := List.all_eq_true.1 hbox args[i] (List.getElem_mem h1a)
   have h5 := hrb i h1a
   revert h3 h4 h5
   generalize args[i] = x
   generalize vs[i] = v
   intro h3 h4 h5
   cases x with
   | v b cs =>
    cases b with
    | false => obtain ⟨c, rfl, h6⟩ := h3; exact cX_sound h6
    | true =>
     obtain ⟨us, rfl, h6, h7⟩ := h3
     exact ⟨us, rfl, by simp [h6], fun k hk hk2 => by
      have hk' : k < cs.length := by simpa using hk
      rw [List.getElem_map]
      exact cX_sound (h7 k hk' hk2)⟩
   | root R =>
    obtain ⟨_, rfl⟩ := h3
    obtain ⟨row, q1, q2⟩ := h5 h4
    refine ⟨row, q1, q2, ?_⟩
    show _ = Value.pointer (some ⟨bx (N + 1 + i - (N + 1)), 0, none⟩)
    rw [show N + 1 + i - (N + 1) = i by omega]
   | fn f => exact ⟨h3, fun t ht => by cases ht⟩
   | clo f caps =>
    refine ⟨?_, fun t ht => ?_⟩
    ·have h3' : v = _ := h3
     rw [h3', List.map_map]
     congr 2
     refine List.map_congr_left fun t _ => ?_
     show _ = Value.pointer (some ⟨bx (N + 1 + t - (N + 1)), 0, none⟩)
     rw [show N + 1 + t - (N + 1) = t by omega]
    ·obtain ⟨u, hu, rfl⟩ := List.mem_map.1 ht
     have h6 := List.all_eq_true.1 h4 u hu
     split at h6
     ·rename_i y hy
      obtain ⟨hlt, rfl⟩ := List.getElem?_eq_some_iff.1 hy
      obtain ⟨row, q1, q2⟩ := hrb u hlt h6
      exact ⟨row, q1, q2⟩
     ·cases h6
   | virt R => exact h3.elim
   | any => trivial
  ·have e1 : (entry n args).s.getD i .undef = .undef := by
    simp only [entry, List.getD_eq_getElem?_getD]
    rw [List.getElem?_append_right (by simp; omega), List.getElem?_replicate]
    split <;> rfl
   rw [e1]; trivial
theorem ret_go {fn : Func} {args : List Arg} {ret : RV} {upd : List Root} {df : List Deferred} {st' : St} {a' : Act} {w' : World} {S2 : Nat → Prop} {bx2 : Nat → Nat} {ph2 : Nat → Nat → Pv} (hT : TOk P T) (hok : RetOk P T fn st' ret upd (reals args + (fn.ntmps - reals args)))
    (hrel : Rel T w S { entF fn.ntmps args bx ph with df := df } st' a' w' S2 bx2 ph2) (hsp : st'.r.getD st'.s.length .none = .none) :
    ∃ v, (results fn a'.tmps).run P w' = .ok v w' ∧ ∃ z S' bx' ph', Ending.returned v = .returned z ∧ Gives T w S (args.map Arg.asRoot) bx ph ret upd z w' S' bx' ph' := by
  obtain ⟨⟨vs', row, obl, row', hret, ho, hle, hrv⟩, hupd⟩ := hok
  unfold retOf at hret
  split at hret
  · rename_i vs2 obl2 hres
    split at hret
    · cases hret
    · rename_i hform
      split at hret
      · rename_i st1 hpu
        simp only [Option.some.injEq, Prod.mk.injEq] at hret
        obtain ⟨rfl, rfl, rfl⟩ := hret
        obtain ⟨zs, z1, z2, z3, z4⟩ := resVs_sound hT hrel _ _ _ hres ho
        have hform' : ∀ v ∈ vs2, (∃ x, v = .one x ∧ x ≠ .undef) ∨ ∃ xs, v = .agg xs := fun v hv => by
          cases hh : (match v with | .one _ | .agg _ => (cellsOfV v).isEmpty && !isAggV v | _ => true) with
          | true => exact absurd (List.any_eq_true.2 ⟨v, hv, hh⟩) hform
          | false =>
            cases v with
            | one x =>
              refine .inl ⟨x, rfl, fun hx => ?_⟩
              subst hx; cases hh
            | agg xs => exact .inr ⟨xs, rfl⟩
            | tup _ => cases hh
            | undef => cases hh
            | nop => cases hh
        have hb0 : ∀ row, st'.r.getD st'.s.length .none ≠ .box row := by rw [hsp]; exact fun _ h => by cases h
        -- the cells of the results
        have hcells : ∀ (vs : List V) (zs : List Value), zs.length = vs.length → (∀ k (h1 : k < vs.length) (h2 : k < zs.length), VRep T w' S2 st'.r bx2 ph2 zs[k] vs[k]) → (∀ v ∈ vs, (∃ x, v = .one x ∧ x ≠ .undef) ∨ ∃ xs, v = .agg xs) →
            (zs.flatMap fun z => z.cells.toList).length = (vs.flatMap cellsOfV).length ∧ ∀ k (h1 : k < (vs.flatMap cellsOfV).length) (h2 : k < (zs.flatMap fun z => z.cells.toList).length), XRep T w' S2 st'.r bx2 ph2 (zs.flatMap fun z => z.cells.toList)[k] (vs.flatMap cellsOfV)[k] := by
          intro vs
          induction vs with
          | nil =>
            intro zs hl _ _
            have : zs = [] := List.eq_nil_of_length_eq_zero hl
            subst this
            exact ⟨rfl, fun k hk => absurd hk (by simp)⟩
          | cons v vs ih =>
            intro zs hl hv hfm
            cases zs with
            | nil => simp at hl
            | cons z zs =>
              have hz : VRep T w' S2 st'.r bx2 ph2 z v := hv 0 (by simp) (by simp)
              have h0 : XsRep T w' S2 st'.r bx2 ph2 z.cells (cellsOfV v) := by
                rcases hfm v (List.mem_cons_self ..) with ⟨x, rfl, hx⟩ | ⟨xs, rfl⟩
                · exact cellsOf_sound hrel.heap hz (by cases x <;> first | exact absurd rfl hx | simp [cellsOfV])
                · obtain ⟨cs, rfl, h2⟩ := hz; exact h2
              obtain ⟨i1, i2⟩ := ih zs (by simpa using hl) (fun k h1 h2 => hv (k + 1) (by simp; omega) (by simp; omega)) (fun v hv => hfm v (List.mem_cons_of_mem _ hv))
              have hl0 : z.cells.toList.length = (cellsOfV v).length := by rw [Array.length_toList]; exact h0.1
              simp only [List.flatMap_cons]
              refine ⟨by rw [List.length_append, List.length_append, hl0, i1], fun k hk hk2 => ?_⟩
              by_cases hlt : k < (cellsOfV v).length
              · have hlt2 : k < z.cells.toList.length := by omega
                rw [List.getElem_append_left hlt, List.getElem_append_left hlt2]
                have hk3 : k < z.cells.size := by rw [h0.1]; exact hlt
                simpa using h0.2 k hlt hk3
              · rw [List.getElem_append_right (by omega), List.getElem_append_right (by omega)]
                simp only [hl0]
                exact i2 _ _ _
        obtain ⟨y1, y2⟩ := hcells vs2 zs z2 z4 hform'
        obtain ⟨ph3, q⟩ := pushAll_sound (vs2.flatMap cellsOfV) (zs.flatMap fun z => z.cells.toList) st' ph2 hrel hb0 y1 y2 hpu
        obtain ⟨rcs, r1, r2⟩ := q.row
        have hl0 : (st'.r.getD st'.s.length .none).row = [] := by rw [hsp]; rfl
        rw [hl0, List.nil_append] at r2
        have hrowN : (rootOf st1.r st'.s.length).row = rcs := r2
        rw [hrowN] at hle
        have hlen : row'.length = (vs2.flatMap cellsOfV).length := by rw [← hle.len, r1, y1]
        have hvals : ∀ k (hk : k < (zs.flatMap fun z => z.cells.toList).length), ph3 st'.s.length k = (zs.flatMap fun z => z.cells.toList)[k] := fun k hk => by
          have := q.vals k hk
          rw [hl0] at this
          simpa using this
        have hpv := split_sound (vs := vs2) (zs := zs) (φ := ph3 st'.s.length) hrel.heap vs2 zs row' 0 z2 z4 hform' hlen (fun k hk => by rw [Nat.zero_add]; exact hvals k hk)
        -- the value
        have hrun : (results fn a'.tmps).run P w' = .ok (if h : zs.toArray.size = 1 then zs.toArray[0] else .tuple zs.toArray) w' := by
          have e1 : results fn a'.tmps = (do
              let vs ← fn.results.mapM (resRun a')
              pure (if h : vs.size = 1 then vs[0] else .tuple vs)) := by
            unfold results
            congr 1
          rw [e1, Array.mapM_eq_mapM_toList]
          simp [z1]
        have hsz : zs.length = fn.results.size := by rw [z3]; simp
        have hcellN : ∀ o (ho : o < rcs.length), RCRep T w' S2 (ph3 st'.s.length o) rcs[o] := fun o ho => q.rel.heap.cell (by rw [r2]; exact List.getElem?_eq_getElem ho)
        have houts : ∀ k, (outsOf T (std P T) fn.results.toList st').getD k .none = st1.r.getD (st'.s.length + 1 + k) .none := fun k => by
          unfold outsOf
          rw [hres]
          dsimp only
          rw [hpu]
          dsimp only
          rw [List.getD_eq_getElem?_getD, List.getElem?_drop]; rfl
        have hflat : ret.parts.flatMap (·.2) = row' := by rw [hrv]; exact split_flat vs2 row' hlen
        have hNlen : upd = [] ∨ st'.s.length = reals args + (fn.ntmps - reals args) := hupd.imp id And.left
        have hupk : ∀ (k : Nat) (R : Root), upd[k]? = some R → LeRoot (st1.r.getD (st'.s.length + 1 + k) .none) R := fun k R hk => by
          rcases hupd with h1 | ⟨_, h1⟩
          · rw [h1] at hk; cases hk
          · have := h1 k R hk; rwa [houts] at this
        have hpin : ∀ k R, upd[k]? = some R → bx2 (st'.s.length + 1 + k) = bx k := fun k R hk => by
          rcases hNlen with h1 | h1
          · rw [h1] at hk; cases hk
          · have := q.rel.rsize.2 (st'.s.length + 1 + k) (by rw [q.len]; omega)
            rw [this]
            unfold entF
            show bx (st'.s.length + 1 + k - (reals args + (fn.ntmps - reals args) + 1)) = _
            rw [h1]; congr 1; omega
        let bx' : Nat → Nat := fun t => match t with | 0 => 0 | i + 1 => bx i
        let ph' : Nat → Nat → Pv := fun t => match t with | 0 => ph3 st'.s.length | i + 1 => ph3 (st'.s.length + 1 + i)
        refine ⟨_, hrun, _, S2, bx', ph', rfl, ?_⟩
        have lecell : ∀ {t o : Nat} {x y : RC}, (st1.r.getD t .none).row[o]? = some x → LeRC x y → ∀ b, y.blk (ph3 t o) b → owns st1.r bx2 ph3 t (some o) b := fun {t o x y} hx hxy b hb => by
          have hrep := q.rel.heap.cell hx
          have h9 := (hxy.sound hrep).2
          rw [owns_of_cell hx]
          cases hxy with
          | refl => exact hb
          | nil_own e =>
            have hz := crep_nil hrep
            have hb2 : (ph3 t o).v.ownBlock = some b := hb
            rw [hz] at hb2; cases hb2
          | nil_sl => cases hb
        have hownR : ∀ t κ b, owns (.loose row' :: upd) bx' ph' t κ b → (t = 0 ∧ owns st1.r bx2 ph3 st'.s.length κ b) ∨ ∃ k R, t = k + 1 ∧ upd[k]? = some R ∧ owns st1.r bx2 ph3 (st'.s.length + 1 + k) κ b := fun t κ b hb => by
          cases t with
          | zero =>
            refine .inl ⟨rfl, ?_⟩
            cases κ with
            | none => cases hb
            | some o =>
              obtain ⟨rc, k1, k2⟩ := owns_cell hb
              have k1' : row'[o]? = some rc := k1
              obtain ⟨ho1, ho2⟩ := List.getElem?_eq_some_iff.1 k1'
              have ho3 : o < rcs.length := by rw [hle.len]; exact ho1
              have hlo := hle.get o ho3 ho1
              rw [ho2] at hlo
              exact lecell (by rw [r2]; exact List.getElem?_eq_getElem ho3) hlo b k2
          | succ k =>
            right
            cases hk : upd[k]? with
            | none => exact (owns_none _ _ _ (by rw [List.getD_cons_succ, List.getD_eq_getElem?_getD, hk]; rfl) _ _ hb).elim
            | some R =>
              refine ⟨k, R, rfl, hk ▸ rfl, ?_⟩
              have hR : (Root.loose row' :: upd).getD (k + 1) .none = R := by rw [List.getD_cons_succ, List.getD_eq_getElem?_getD, hk]; rfl
              have hlr := hupk k R hk
              generalize hQ : st1.r.getD (st'.s.length + 1 + k) .none = Q at hlr
              cases hlr with
              | none => exact (owns_none _ _ _ hR _ _ hb).elim
              | box hrow =>
                rename_i l r
                cases κ with
                | none =>
                  obtain ⟨_, _, rfl⟩ := owns_box hb
                  have h9 := owns_of_box (bx := bx2) (ph := ph3) hQ
                  rw [hpin k _ hk] at h9
                  exact h9
                | some o =>
                  obtain ⟨rc, k1, k2⟩ := owns_cell hb
                  rw [hR] at k1
                  have k1' : r[o]? = some rc := k1
                  obtain ⟨ho1, ho2⟩ := List.getElem?_eq_some_iff.1 k1'
                  have ho3 : o < l.length := by rw [hrow.len]; exact ho1
                  have hlo := hrow.get o ho3 ho1
                  rw [ho2] at hlo
                  exact lecell (by rw [hQ]; exact List.getElem?_eq_getElem ho3) hlo b k2
        refine ⟨?_, ?_, fun _ => rfl, hrel.keep, fun b hb => ?_, fun t κ b hb => ?_, q.rel.chg⟩
        · rw [hflat]
          refine ⟨fun t => ?_, fun t κ t' κ' b h1 h2 => ?_, fun t κ b h1 => ?_, q.rel.heap.low⟩
          · cases t with
            | zero => exact fun o ho => ((hle.get o (by rw [hle.len]; exact ho) ho).sound (hcellN o (by rw [hle.len]; exact ho))).1
            | succ k =>
              rw [List.getD_cons_succ]
              cases hk : upd[k]? with
              | none => rw [List.getD_eq_getElem?_getD, hk]; trivial
              | some R =>
                rw [List.getD_eq_getElem?_getD, hk]
                show RootRep T w' S2 (bx k) (ph3 (st'.s.length + 1 + k)) R
                have hlr := hupk k R hk
                have hrr := q.rel.heap.root (st'.s.length + 1 + k)
                rw [hpin k R hk] at hrr
                generalize st1.r.getD (st'.s.length + 1 + k) .none = Q at hlr hrr
                cases hlr with
                | none => trivial
                | box hrow => exact ⟨by obtain ⟨⟨arr, e, a1, a2, a3⟩, _⟩ := hrr; exact ⟨arr, e, a1, by rw [a2, hrow.len], fun o ho => a3 o (by rw [hrow.len]; exact ho)⟩, fun o ho => ((hrow.get o (by rw [hrow.len]; exact ho) ho).sound (hrr.2.1 o (by rw [hrow.len]; exact ho))).1, fun o f ho => by
                  obtain ⟨g1, g2⟩ := List.getElem?_eq_some_iff.1 ho
                  have g3 := hrow.get o (by rw [hrow.len]; exact g1) g1
                  rw [g2] at g3
                  exact hrr.2.2 o f (by rw [List.getElem?_eq_getElem (by rw [hrow.len]; exact g1), g3.me])⟩
          · rcases hownR t κ b h1 with ⟨rfl, h3⟩ | ⟨k, R, rfl, _, h3⟩ <;> rcases hownR t' κ' b h2 with ⟨rfl, h4⟩ | ⟨k', R', rfl, _, h4⟩
            · exact ⟨rfl, (q.rel.heap.inj _ _ _ _ b h3 h4).2⟩
            · have := (q.rel.heap.inj _ _ _ _ b h3 h4).1; omega
            · have := (q.rel.heap.inj _ _ _ _ b h3 h4).1; omega
            · obtain ⟨e1, e2⟩ := q.rel.heap.inj _ _ _ _ b h3 h4
              exact ⟨by omega, e2⟩
          · rcases hownR t κ b h1 with ⟨_, h3⟩ | ⟨k, R, _, _, h3⟩ <;> exact q.rel.heap.free _ _ b h3
        · rw [hrv]
          unfold RetRep
          dsimp only
          by_cases h1 : fn.results.size = 1
          · rw [if_neg (by simp [h1])]
            have h2 : zs.length = 1 := by omega
            match zs, h2, hpv with
            | [z], _, hpv => simpa using hpv
          · rw [if_pos (by simp [h1])]
            refine ⟨zs.toArray, ?_, hpv⟩
            rw [dif_neg (by simp; omega)]
        · rcases q.rel.new b hb with h1 | h1 | h1
          · exact .inl h1
          · exact .inr (.inl h1)
          · exact .inr (.inr h1)
        · rw [hflat] at hb
          rcases hownR t κ b hb with ⟨_, h3⟩ | ⟨k, R, _, _, h3⟩ <;> exact q.rel.mine _ _ b h3
      · cases hret
  · cases hret
theorem pc_of {f : FuncId} {fn : Func} {c : Code} {args : List Arg} {ret : RV} {upd : List Root} (hT : TOk P T) (hf : P.funcs[f]? = some fn) (hb : fn.body = some c) (hr : argsOk args = true)
  (h : Aw P T c (fun e st => (e = .normal ∨ e = .ret) ∧ RetOk P T fn st ret upd (reals args + (fn.ntmps - reals args))) (entry fn.ntmps args)) : PC P T f args ret upd := by
 intro w S bx ph vs hheap hl ha
 refine calls_of_wp hf hb ?_
 refine wp_mono (h w S (entF fn.ntmps args bx ph) _ w (entry_rels hheap hl hr ha)) ?_
 rintro e a' w' ⟨st', ⟨he, hok⟩, S2, bx2, ph2, hrel, hsp⟩
 have hbp : ∀ {R : Ending → World → Prop}, (a'.defers = [] ∧ ∃ v, (results fn a'.tmps).run P w' = .ok v w' ∧ R (.returned v) w') → bodyPost P fn R e a' w' := fun hh => by
  rcases he with rfl | rfl <;> exact hh
 exact hbp ⟨hrel.defers, ret_go (df := []) hT hok hrel hsp⟩
/-! ### the table of types -/
def OkTI (P : Program) (t : TypeId) (ti : TI) : Prop := P.underlying t = some ti.desc ∧ ∃ i, P.info? t = some i ∧ i.size = ti.size ∧ i.bytes = ti.bytes ∧ i.zero = some ti.zero ∧ ti.zero.cells.size = ti.size
theorem tok1 {t : TypeId} {ti : TI} (h1 : P.underlying t = some ti.desc) (h2 : (P.info? t).map (fun i => (i.size, i.bytes, i.zero)) = some (ti.size, ti.bytes, some ti.zero)) (h3 : ti.zero.cells.size = ti.size) : OkTI P t ti := by
 refine ⟨h1, ?_⟩
 cases hi : P.info? t with
 | none => rw [hi] at h2; cases h2
 | some i =>
  rw [hi] at h2
  simp only [Option.map_some, Option.some.injEq, Prod.mk.injEq] at h2
  exact ⟨i, rfl, h2.1, h2.2.1, h2.2.2, h3⟩
end Go.Proofs.Ytcpcghnpoekhpaa.A
/- The ghost machine, part 27: the moves of a proof. -/
set_option linter.unusedSimpArgs false
set_option linter.unusedVariables false
set_option maxRecDepth 100000
set_option maxHeartbeats 4000000
namespace Go.Proofs.Ytcpcghnpoekhpaa.A
open Go Go.RowKit
variable {P : Program} {T : TT} {st st' : St} {Q : Exit → St → Prop}
def ret1 (c : RC) : RV := ⟨false, [(false, [c])]⟩
def rets (l : List (Bool × List RC)) : RV := ⟨true, l⟩
abbrev vI (n : Int) : C := .val (.int .i64 n)
abbrev vB (b : Bool) : C := .val (.bool b)
abbrev vS (s : ByteArray) : C := .val (.string s)
theorem obl0 : ∀ p ∈ ([] : List Prop), p := fun _ h => absurd h (by simp)
theorem obl1 {p : Prop} {l : List Prop} (h : p) (k : ∀ q ∈ l, q) : ∀ q ∈ p :: l, q := fun q hq => by
 rcases List.mem_cons.1 hq with rfl | hq
 ·exact h
 ·exact k q hq
theorem enters {f : FuncId} {fn : Func} (hf : P.funcs[f]? = some fn) (h1 : (fn.name == "runtime.NumGoroutine") = false) (h2 : fn.body.isNone = false) : Enters P f := by
 intro args w
 have e1 : ¬ fn.name = "runtime.NumGoroutine" := by simpa using h1
 have e2 : ¬ fn.body = none := fun h => by rw [h] at h2; cases h2
 simp [callFunc, hf, e1, e2, program, Sem.run]
end Go.Proofs.Ytcpcghnpoekhpaa.A
/- The ghost machine, between parts 27 and 28: boxes that nobody changes any more; arrays. -/
set_option linter.unusedSimpArgs false
set_option linter.unusedVariables false
set_option maxRecDepth 100000
set_option maxHeartbeats 4000000
namespace Go.Proofs.Ytcpcghnpoekhpaa.A
open Go Go.RowKit
variable {P : Program} {T : TT} {w w' w0 : World} {S S0 : Nat → Prop} {F : Fr} {bx : Nat → Nat} {ph : Nat → Nat → Pv} {a : Act} {st st' : St} {Q : Exit → St → Prop}
/-! ### a box that nobody changes any more -/
/-! ### arrays -/
def plainC : List X → Option (List C)
 | [] => some []
 | .c c :: r => match plainC r with | some l => some (c :: l) | none => none
 | _ :: _ => none
theorem plainC_get : ∀ (xs : List X) (cs : List C), plainC xs = some cs → xs = cs.map .c := by
 intro xs
 induction xs with
 | nil => intro cs h; simp only [plainC, Option.some.injEq] at h; subst h; rfl
 | cons x xs ih =>
  intro cs h
  cases x with
  | c c =>
   unfold plainC at h
   split at h
   ·rename_i l hl; cases h; rw [ih l hl]; rfl
   ·cases h
  | view => cases h
  | mv => cases h
  | sub => cases h
  | ptr => cases h
  | eptr => cases h
  | mem => cases h
  | fn => cases h
  | tv => cases h
  | tp => cases h
  | bfn => cases h
  | undef => cases h
def arrOf (T : TT) (t : TypeId) : Option (Nat × TypeId × TI) :=
 match descOf T t with
 | .array n e => match T e with | some te => some (n, e, te) | none => none
 | _ => none
theorem arrOf_desc (hT : TOk P T) {t e : TypeId} {n : Nat} {te : TI} (h : arrOf T t = some (n, e, te)) : P.underlying t = some (.array n e) ∧ T e = some te := by
 unfold arrOf at h
 split at h
 ·rename_i n' e' hd
  split at h
  ·rename_i te' hte
   cases h
   exact ⟨desc_of hT hd (by simp), hte⟩
  ·cases h
 ·cases h
def arrF (e : TypeId) (sz n : Nat) : Array Field := ((List.range n).map fun i => ({ (default : Field) with type := e, offset := i * sz } : Field)).toArray
def isNilV (T : TT) (t : TypeId) (x y : V) : Option Bool :=
 match descOf T t, x, y with
 | .pointer _, .one (.ptr _ _), .one (.c (.val (.pointer none))) => some false
 | .pointer _, .one (.mem _ _), .one (.c (.val (.pointer none))) => some false
 | .slice _, .one (.c .nil), .one (.c .nil) => some true
 | .map _ _, .one (.mv _ _), .one (.c (.val (.map none))) => some false
 | _, _, _ => none
def oddV : Value → Bool
 | .pointer _ | .slice _ _ _ | .map _ => true
 | _ => false
theorem binOp_nil {t : TypeId} {u v : Value} {b : Bool} (h : oddV u = true ∧ ∀ w' : World, (Op.equal t u v).run P w' = .ok b w') {w' : World} : (binOp .eql t u v).run P w' = .ok (.bool b) w' := by
 obtain ⟨h1, h2⟩ := h
 cases u <;> simp [oddV] at h1 <;> simp [binOp, h2]
theorem binOp_nil_neq {t : TypeId} {u v : Value} {b : Bool} (h : oddV u = true ∧ ∀ w' : World, (Op.equal t u v).run P w' = .ok b w') {w' : World} : (binOp .neq t u v).run P w' = .ok (.bool (!b)) w' := by
 obtain ⟨h1, h2⟩ := h
 cases u <;> simp [oddV] at h1 <;> simp [binOp, h2]
theorem run_equal1 {t : TypeId} {d : TypeDesc} (hu : P.underlying t = some d) (x y : Value) (b : Bool) (w' : World) (h : (match d, x, y with
  | .pointer _, .pointer none, .pointer b => some b.isNone
  | .pointer _, .pointer _, .pointer none => some false
  | .slice _, .slice none _ _, .slice b _ _ => some b.isNone
  | .slice _, .slice _ _ _, .slice none _ _ => some false
  | .map _ _, .map none, .map b => some b.isNone
  | .map _ _, .map _, .map none => some false
  | _, _, _ => none) = some b) : (Op.equal t x y).run P w' = .ok b w' := by
 unfold Op.equal
 obtain ⟨n, hn⟩ : ∃ n, Op.maxDepth = n + 1 := ⟨_, rfl⟩
 rw [hn, Op.equalIn]
 simp only [Sem.run_bind, run_underlying hu, Result.andThen_ok]
 split at h <;> first | (cases h; rfl) | (cases h; simp) | (cases h; done)
theorem isNilV_sound (hT : TOk P T) (h : Rel T w0 S0 F st a w S bx ph) {t : TypeId} {x y : Operand} {b : Bool} (hp : isNilV T t (ev st.s x) (ev st.s y) = some b) :
  (oddV (a.eval x) = true ∧ ∀ w' : World, (Op.equal t (a.eval x) (a.eval y)).run P w' = .ok b w') ∧ ∀ (op : BinOp) (w' : World), (eqGuard op t x y (a.eval x) (a.eval y)).run P w' = .ok () w' := by
 have h1 := ev_sound h x
 have h2 := ev_sound h y
 have hg : ∀ u v : Value, oddV u = true → ∀ (op : BinOp) (w' : World), (eqGuard op t x y u v).run P w' = .ok () w' := fun u v hu op w' => by
  cases u <;> simp [oddV] at hu <;> (unfold eqGuard; split <;> simp)
 unfold isNilV at hp
 split at hp
 ·rename_i e t' o' hd hx hy
  cases hp
  rw [hx] at h1
  rw [hy] at h2
  obtain ⟨_, _, _, h1⟩ := h1
  have hu := desc_of hT hd (by simp)
  rw [h1, (crep_val h2).1]
  exact ⟨⟨rfl, fun w' => run_equal1 hu _ _ _ w' rfl⟩, hg _ _ rfl⟩
 ·rename_i e cells off hd hx hy
  cases hp
  rw [hx] at h1
  rw [hy] at h2
  obtain ⟨_, _, _, h1, _⟩ := h1
  have hu := desc_of hT hd (by simp)
  rw [h1, (crep_val h2).1]
  exact ⟨⟨rfl, fun w' => run_equal1 hu _ _ _ w' rfl⟩, hg _ _ rfl⟩
 ·rename_i e hd hx hy
  cases hp
  rw [hx] at h1
  rw [hy] at h2
  have hu := desc_of hT hd (by simp)
  rw [crep_nil h1, crep_nil h2]
  exact ⟨⟨rfl, fun w' => run_equal1 hu _ _ _ w' rfl⟩, hg _ _ rfl⟩
 ·rename_i k e t' o' hd hx hy
  cases hp
  rw [hx] at h1
  rw [hy] at h2
  obtain ⟨kk, m, hc, h1⟩ := h1
  obtain ⟨b, q1, _⟩ := h.heap.cell hc
  rw [q1] at h1
  have hu := desc_of hT hd (by simp)
  rw [h1, (crep_val h2).1]
  exact ⟨⟨rfl, fun w' => run_equal1 hu _ _ _ w' rfl⟩, hg _ _ rfl⟩
 ·cases hp
def intsX : List X → Option (List Int)
 | [] => some []
 | .c (.val (.int .i64 a)) :: r => match intsX r with | some l => some (a :: l) | none => none
 | _ :: _ => none
def intsV : V → Option (List Int)
 | .agg xs => intsX xs
 | _ => none
def sameV (x y : V) : Option (List Int × List Int) :=
 match intsV x, intsV y with
 | some xs, some ys => if xs.length = ys.length then some (xs, ys) else none
 | _, _ => none
theorem intsX_sound : ∀ (xs : List X) (us : List Value) (l : List Int), us.length = xs.length → (∀ k (h : k < xs.length) (h2 : k < us.length), XRep T w S st.r bx ph us[k] xs[k]) → intsX xs = some l → us = l.map (Value.int .i64) := by
 intro xs
 induction xs with
 | nil =>
  intro us l hl _ hi
  cases hi
  exact List.eq_nil_of_length_eq_zero hl
 | cons x xs ih =>
  intro us l hl hx hi
  match us, hl with
  | u :: us, hl =>
   unfold intsX at hi
   split at hi
   ·rename_i h; cases h
   ·rename_i a r heq
    cases heq
    split at hi
    ·rename_i l' hl'
     cases hi
     have h0 := hx 0 (by simp) (by simp)
     have h0 : CRep w S u (.val (.int .i64 a)) := h0
     rw [List.map_cons, (crep_val h0).1, ih us l' (by simpa using hl) (fun k h1 h2 => hx (k + 1) (by simpa using h1) (by simpa using h2)) hl']
    ·cases hi
   ·cases hi
theorem intsV_sound {v : Value} {V1 : V} {l : List Int} (h : VRep T w S st.r bx ph v V1) (hi : intsV V1 = some l) : v = .agg (l.map (Value.int .i64)).toArray := by
 cases V1 with
 | agg xs =>
  obtain ⟨cs, h1, h2, h3⟩ := h
  rw [h1]
  congr 1
  have := intsX_sound (st := st) xs cs.toList l (by simpa using h2) (fun k hk hk2 => by have := h3 k hk (by simpa using hk2); simpa using this) hi
  rw [← this]
 | one _ => cases hi
 | tup _ => cases hi
 | undef => cases hi
 | nop => cases hi
theorem sameV_sound (h : Rel T w0 S0 F st a w S bx ph) {x y : Operand} {xs ys : List Int} (hp : sameV (ev st.s x) (ev st.s y) = some (xs, ys)) :
  a.eval x = .agg (xs.map (Value.int .i64)).toArray ∧ a.eval y = .agg (ys.map (Value.int .i64)).toArray ∧ ys.length = xs.length := by
 unfold sameV at hp
 split at hp
 ·rename_i xs' ys' h1 h2
  split at hp
  ·rename_i hl
   cases hp
   exact ⟨intsV_sound (st := st) (ev_sound h x) h1, intsV_sound (st := st) (ev_sound h y) h2, hl.symm⟩
  ·cases hp
 ·cases hp
def mixX : List X → Option (List Int × ByteArray)
 | [.c (.val (.string s))] => some ([], s)
 | .c (.val (.int .i64 a)) :: r => match mixX r with | some (l, s) => some (a :: l, s) | none => none
 | _ => none
def mixV : V → Option (List Int × ByteArray)
 | .agg xs => mixX xs
 | _ => none
def sameM (x y : V) : Option ((List Int × ByteArray) × (List Int × ByteArray)) :=
 match mixV x, mixV y with
 | some p, some q => if p.1.length = q.1.length then some (p, q) else none
 | _, _ => none
theorem mixX_sound : ∀ (xs : List X) (us : List Value) (l : List Int) (s : ByteArray), us.length = xs.length → (∀ k (h : k < xs.length) (h2 : k < us.length), XRep T w S st.r bx ph us[k] xs[k]) → mixX xs = some (l, s) → us = l.map (Value.int .i64) ++ [Value.string s] := by
 intro xs
 induction xs with
 | nil => intro us l s hl _ hi; cases hi
 | cons x xs ih =>
  intro us l s hl hx hi
  match us, hl with
  | u :: us, hl =>
   unfold mixX at hi
   split at hi
   ·rename_i s' heq
    cases heq
    cases hi
    have h0 := hx 0 (by simp) (by simp)
    have h0 : CRep w S u (.val (.string s)) := h0
    rw [List.eq_nil_of_length_eq_zero (show us.length = 0 by simpa using hl), (crep_val h0).1]; rfl
   ·rename_i a r heq
    cases heq
    split at hi
    ·rename_i l' s' hl'
     cases hi
     have h0 := hx 0 (by simp) (by simp)
     have h0 : CRep w S u (.val (.int .i64 a)) := h0
     rw [List.map_cons, (crep_val h0).1, ih us l' s (by simpa using hl) (fun k h1 h2 => hx (k + 1) (by simpa using h1) (by simpa using h2)) hl']; rfl
    ·cases hi
   ·cases hi
theorem mixV_sound {v : Value} {V1 : V} {l : List Int} {s : ByteArray} (h : VRep T w S st.r bx ph v V1) (hi : mixV V1 = some (l, s)) : v = .agg (l.map (Value.int .i64) ++ [Value.string s]).toArray := by
 cases V1 with
 | agg xs =>
  obtain ⟨cs, h1, h2, h3⟩ := h
  rw [h1]
  congr 1
  have := mixX_sound (st := st) xs cs.toList l s (by simpa using h2) (fun k hk hk2 => by have := h3 k hk (by simpa using hk2); simpa using this) hi
  rw [← this]
 | one _ => cases hi
 | tup _ => cases hi
 | undef => cases hi
 | nop => cases hi
theorem sameM_sound (h : Rel T w0 S0 F st a w S bx ph) {x y : Operand} {xs ys : List Int} {s t : ByteArray} (hp : sameM (ev st.s x) (ev st.s y) = some ((xs, s), (ys, t))) :
  a.eval x = .agg (xs.map (Value.int .i64) ++ [Value.string s]).toArray ∧ a.eval y = .agg (ys.map (Value.int .i64) ++ [Value.string t]).toArray ∧ ys.length = xs.length := by
 unfold sameM at hp
 split at hp
 ·rename_i p q h1 h2
  split at hp
  ·rename_i hl
   cases hp
   exact ⟨mixV_sound (st := st) (ev_sound h x) h1, mixV_sound (st := st) (ev_sound h y) h2, hl.symm⟩
  ·cases hp
 ·cases hp
def xtraOp (T : TT) (j : J) (st : St) (o : Oper) : Option (V × List Prop) :=
 match o.op with
 | .index t x i =>
  match arrOf T t, ev st.s x, num (ev st.s i) with
  | some (n, _, te), .agg xs, some i =>
   match plainC xs, te.cells with
   | some cs, [k] => if te.size = 1 ∧ isAggD te.desc = false ∧ xs.length = n then some (.one (.c (shape j k (j.cell cs (j.toNat i)))), [j.inb i n, j.ok k (j.cell cs (j.toNat i))]) else none
   | _, _ => none
  | _, _, _ => none
 | .indexAddr t x i =>
  match arrOf T t, ev st.s x, num (ev st.s i) with
  | some (n, _, te), .one (.mem cells k), some i => some (.one (.mem cells (plus j k (mulSz j (j.toNat i) te.size))), [j.inb i n])
  | _, _, _ => none
 | .makeFunc (.func f) first captured =>
  if first.isEmpty then
   match optAll (captured.toList.map fun x => ptrOf (ev st.s x)) with
   | some ts => if ts.all (fun t => (rootOf st.r t).isBox) then some (.one (.fn f ts), []) else none
   | none => none
  else
   match first.toList, captured.isEmpty with
   | [x], true =>
    match ev st.s x with
    | .one (.ptr t 0) => if (rootOf st.r t).isBox then some (.one (.bfn f t), []) else none
    | _ => none
   | _, _ => none
 | .binOp .eql t x y _ => match isNilV T t (ev st.s x) (ev st.s y) with | some b => some (.one (.c (.val (.bool b))), []) | none => match sameV (ev st.s x) (ev st.s y) with | some (xs, ys) => some (.one (.c (.val (.bool (j.ieq xs ys)))), [j.seq t xs.length]) | none => match sameM (ev st.s x) (ev st.s y) with | some ((xs, s), (ys, u)) => some (.one (.c (.val (.bool (j.meq xs s ys u)))), [j.mseq t xs.length]) | none => none
 | .binOp .neq t x y _ => match isNilV T t (ev st.s x) (ev st.s y) with | some b => some (.one (.c (.val (.bool (!b)))), []) | none => match sameV (ev st.s x) (ev st.s y) with | some (xs, ys) => some (.one (.c (.val (.bool (j.bnot (j.ieq xs ys))))), [j.seq t xs.length]) | none => match sameM (ev st.s x) (ev st.s y) with | some ((xs, s), (ys, u)) => some (.one (.c (.val (.bool (j.bnot (j.meq xs s ys u))))), [j.mseq t xs.length]) | none => none
 | .call { callee := .builtin .min, args, .. } =>
  match args.toList with
  | [x, y] => match ev st.s x, ev st.s y with | .one (.c (.val (.int k a))), .one (.c (.val (.int _ b))) => some (.one (.c (.val (.int k (j.imin a b)))), []) | _, _ => none
  | _ => none
 | .call { callee := .builtin .max, args, .. } =>
  match args.toList with
  | [x, y] => match ev st.s x, ev st.s y with | .one (.c (.val (.int k a))), .one (.c (.val (.int _ b))) => some (.one (.c (.val (.int k (j.imax a b)))), []) | _, _ => none
  | _ => none
 | .call { callee := .builtin .cap, args, argTypes } =>
  match args.toList, argTypes.toList with
  | [x], [t] => match descOf T t, ev st.s x with | .slice _, .one (.c .nil) => some (.one (.c (.val (.int .i64 0))), []) | _, _ => none
  | _, _ => none
 | .slice t x lo hi none =>
  match elemOf T t, ev st.s x with
  | some _, .one (.c .nil) => match cutV j 0 (lo.map fun l => num (ev st.s l)) (hi.map fun h => num (ev st.s h)) with | some (_, _, obl) => some (.one (.c .nil), obl) | none => none
  | _, _ => none
 | .build t parts =>
  match T t, arrOf T t with
  | some ti, some (n, e, te) =>
   match constV ti.zero with
   | .agg zs => match buildX T (arrF e te.size n) zs (parts.toList.map fun p => (p.1, ev st.s p.2)) with | some xs => some (.agg xs, []) | none => none
   | _ => none
  | _, _ => none
 | _ => none
theorem xtraOp_sound (hT : TOk P T) (h : Rel T w0 S0 F st a w S bx ph) {o : Oper} {V : V} {obl : List Prop} (hp : xtraOp T (std P T) st o = some (V, obl)) (ho : ∀ p ∈ obl, p) :
    ∃ z, (∀ w' : World, (execOp a.eval o).run P w' = .ok (.value z) w') ∧ VRep T w S st.r bx ph z V := by
  obtain ⟨dst, op, type, pos, after, guard⟩ := o
  unfold xtraOp at hp
  dsimp only at hp
  split at hp
  · rename_i t x i
    split at hp
    · rename_i n e te xs i' harr hx hi
      split at hp
      · rename_i cs k hpl hk
        split at hp
        · rename_i hc
          obtain ⟨c1, c2, c3⟩ := hc
          cases hp
          obtain ⟨ha, hte⟩ := arrOf_desc hT harr
          obtain ⟨kk, hv⟩ := num_sound (ev_sound h i) hi
          have h0 : 0 ≤ i' ∧ i' < (n : Int) := ho _ (List.mem_cons_self ..)
          have hok : okK k (cellAt cs i'.toNat) := ho _ (List.mem_cons_of_mem _ (List.mem_cons_self ..))
          have hxr := ev_sound h x
          rw [hx] at hxr
          obtain ⟨us, hu, hus, hur⟩ := hxr
          have hxs := plainC_get xs cs hpl
          have hlen : cs.length = xs.length := by rw [hxs]; simp
          have hlt : i'.toNat < us.size := by omega
          have hlt2 : i'.toNat < xs.length := by omega
          have hcr : CRep w S us[i'.toNat] (cellAt cs i'.toNat) := by
            have h1 := hur i'.toNat hlt2 hlt
            have e1 : xs[i'.toNat] = .c (cellAt cs i'.toNat) := by
              have : i'.toNat < cs.length := by omega
              simp [hxs, cellAt, List.getD_eq_getElem?_getD, List.getElem?_eq_getElem this]
            rw [e1] at h1; exact h1
          refine ⟨us[i'.toNat], fun w' => ?_, shape_sound hcr hok⟩
          simp [execOp, Instr.index, hu, hv, asIntOf, run_underlying ha, h0, part, run_isAgg hT hte, c2, run_sizeOf hT hte, c1, hlt]
        · cases hp
      · cases hp
    · cases hp
  · rename_i t x i
    split at hp
    · rename_i n e te cells k i' harr hx hi
      cases hp
      obtain ⟨ha, hte⟩ := arrOf_desc hT harr
      obtain ⟨kk, hv⟩ := num_sound (ev_sound h i) hi
      have h0 : 0 ≤ i' ∧ i' < (n : Int) := ho _ (List.mem_cons_self ..)
      have hxr := ev_sound h x
      rw [hx] at hxr
      obtain ⟨b, base, vs, hu, q1, q2, q3⟩ := hxr
      refine ⟨.pointer (some ⟨b, base + (k + i'.toNat * te.size), none⟩), fun w' => ?_, ⟨b, base, vs, by rw [plus_std, mulSz_std]; rfl, q1, q2, q3⟩⟩
      simp [execOp, Instr.indexAt, hu, hv, asIntOf, run_underlying ha, h0, run_sizeOf hT hte, Instr.sureAddr, Addr.add_lit, Nat.add_assoc]
    · cases hp
  · rename_i f first captured
    split at hp
    · rename_i hf
      split at hp
      · rename_i ts hts
        split at hp
        · rename_i hbox
          cases hp
          have h2 := optAll_some _ _ hts
          have hfe : first = #[] := by simpa using hf
          subst hfe
          have hlen : captured.size = ts.length := by have := congrArg List.length h2; simpa using this
          have hcap : ∀ k (h1 : k < captured.size) (h3 : k < ts.length), a.eval captured[k] = .pointer (some ⟨bx ts[k], 0, none⟩) := fun k h1 h3 => by
            have h4 := congrArg (fun l => l[k]?) h2
            simp only [List.getElem?_map, Array.getElem?_toList, Array.getElem?_eq_getElem h1, List.getElem?_eq_getElem h3, Option.map_some, Option.some.injEq] at h4
            have h5 := ev_sound h captured[k]
            unfold ptrOf at h4
            split at h4
            · rename_i t he
              cases h4
              rw [he] at h5
              obtain ⟨_, _, _, q⟩ := h5
              exact q
            · cases h4
          refine ⟨.func (.func f) #[] (captured.map a.eval), fun w' => by simp [execOp, Instr.makeFunc], ?_, fun t ht => ?_⟩
          · congr 1
            apply Array.ext
            · simp [hlen]
            · intro k h1 h3
              have h1' : k < captured.size := by simpa using h1
              have h3' : k < ts.length := by simpa using h3
              simp [hcap k h1' h3']
          · obtain ⟨row, q1, q2⟩ := isBox_some (List.all_eq_true.1 hbox t ht)
            exact ⟨row, q1, q2⟩
        · cases hp
      · cases hp
    · split at hp
      · rename_i x hfl hce
        split at hp
        · rename_i t hx
          split at hp
          · rename_i hbox
            cases hp
            obtain ⟨row, q1, q2⟩ := isBox_some hbox
            have h5 := ev_sound h x
            rw [hx] at h5
            obtain ⟨_, _, _, q⟩ := h5
            obtain ⟨first⟩ := first
            simp only at hfl
            subst hfl
            have hce : captured = #[] := by simpa using hce
            subst hce
            exact ⟨meV f (bx t), fun w' => by simp [execOp, Instr.makeFunc, q, meV], ⟨row, q1, q2⟩, rfl⟩
          · cases hp
        · cases hp
      · cases hp
  · rename_i t x y yt
    split at hp
    · rename_i b hb
      cases hp
      obtain ⟨h1, h2⟩ := isNilV_sound hT h hb
      exact ⟨.bool b, fun w' => by simp [execOp, h2, binOp_nil h1], CRep.val rfl⟩
    · split at hp
      · rename_i xs ys hb
        cases hp
        obtain ⟨h1, h2, h3⟩ := sameV_sound h hb
        have hs := ho _ (List.mem_cons_self ..)
        exact ⟨.bool (decide (xs = ys)), fun w' => by obtain ⟨q1, q2, q3⟩ := hs xs ys rfl h3 w'; simp only [execOp, h1, h2, Sem.run_bind, q3, Result.andThen_ok, q1, Sem.run_pure], CRep.val rfl⟩
      · split at hp
        · rename_i xs s ys u hb
          cases hp
          obtain ⟨h1, h2, h3⟩ := sameM_sound h hb
          have hs := ho _ (List.mem_cons_self ..)
          exact ⟨.bool (decide (xs = ys ∧ s = u)), fun w' => by obtain ⟨q1, q2, q3⟩ := hs xs s ys u rfl h3 w'; simp only [execOp, h1, h2, Sem.run_bind, q3, Result.andThen_ok, q1, Sem.run_pure], CRep.val rfl⟩
        · cases hp
  · rename_i t x y yt
    split at hp
    · rename_i b hb
      cases hp
      obtain ⟨h1, h2⟩ := isNilV_sound hT h hb
      exact ⟨.bool (!b), fun w' => by simp [execOp, h2, binOp_nil_neq h1], CRep.val rfl⟩
    · split at hp
      · rename_i xs ys hb
        cases hp
        obtain ⟨h1, h2, h3⟩ := sameV_sound h hb
        have hs := ho _ (List.mem_cons_self ..)
        exact ⟨.bool (!decide (xs = ys)), fun w' => by obtain ⟨q1, q2, q3⟩ := hs xs ys rfl h3 w'; simp only [execOp, h1, h2, Sem.run_bind, q3, Result.andThen_ok, q2, Sem.run_pure], CRep.val rfl⟩
      · split at hp
        · rename_i xs s ys u hb
          cases hp
          obtain ⟨h1, h2, h3⟩ := sameM_sound h hb
          have hs := ho _ (List.mem_cons_self ..)
          exact ⟨.bool (!decide (xs = ys ∧ s = u)), fun w' => by obtain ⟨q1, q2, q3⟩ := hs xs s ys u rfl h3 w'; simp only [execOp, h1, h2, Sem.run_bind, q3, Result.andThen_ok, q2, Sem.run_pure], CRep.val rfl⟩
        · cases hp
  · rename_i args ats
    split at hp
    · rename_i x y hax
      split at hp
      · rename_i k u k' v hx hy
        cases hp
        have h1 := ev_sound h x
        have h2 := ev_sound h y
        rw [hx] at h1
        rw [hy] at h2
        obtain ⟨args⟩ := args
        simp only at hax
        subst hax
        refine ⟨.int k (if v < u then v else u), fun w' => ?_, CRep.val rfl⟩
        simp [execOp, resolve, invoke, builtin, (crep_val h1).1, (crep_val h2).1, Builtin.min_, Builtin.min2]
      · cases hp
    · cases hp
  · rename_i args ats
    split at hp
    · rename_i x y hax
      split at hp
      · rename_i k u k' v hx hy
        cases hp
        have h1 := ev_sound h x
        have h2 := ev_sound h y
        rw [hx] at h1
        rw [hy] at h2
        obtain ⟨args⟩ := args
        simp only at hax
        subst hax
        refine ⟨.int k (if v > u then v else u), fun w' => ?_, CRep.val rfl⟩
        simp [execOp, resolve, invoke, builtin, (crep_val h1).1, (crep_val h2).1, Builtin.max_, Builtin.max2]
      · cases hp
    · cases hp
  · rename_i args ats
    split at hp
    · rename_i x t hax hat
      split at hp
      · rename_i e hd hx
        cases hp
        have h1 := ev_sound h x
        rw [hx] at h1
        obtain ⟨args⟩ := args
        obtain ⟨ats⟩ := ats
        simp only at hax hat
        subst hax; subst hat
        have hu : P.underlying t = some (.slice e) := desc_of hT hd (by simp)
        refine ⟨.int .i64 0, fun w' => ?_, CRep.val rfl⟩
        simp [execOp, resolve, invoke, builtin, crep_nil h1, Builtin.cap_, run_underlying hu, goInt]
      · cases hp
    · cases hp
  · rename_i t x lo hi
    split at hp
    · rename_i p he hx
      split at hp
      · rename_i l hh obl' hcut
        cases hp
        obtain ⟨e, te⟩ := p
        obtain ⟨q1, q2, q3⟩ := elemOf_desc hT he
        have h1 := ev_sound h x
        rw [hx] at h1
        obtain ⟨c1, c2, c3⟩ := cut_sound (P := P) (T := T) (b := true) (cap := 0) (n := 0) (Nat.le_refl _) (brep_sound h lo) (brep_sound h hi) hcut ho
        have e1 : l = 0 := by omega
        have e2 : hh = 0 := by omega
        subst e1; subst e2
        refine ⟨.slice none 0 0, fun w' => ?_, CRep.nil⟩
        simp [execOp, crep_nil h1, Instr.sliceAt, Instr.slice, run_underlying q1, c3 w', run_sizeOf hT q2]
      · cases hp
    · cases hp
  · rename_i t parts
    split at hp
    · rename_i ti n e te ht harr
      split at hp
      · rename_i zs hz
        split at hp
        · rename_i xs hb
          cases hp
          obtain ⟨ha, hte⟩ := arrOf_desc hT harr
          obtain ⟨h1, i, h2, h3, h4, h5, _⟩ := hT t ti ht
          obtain ⟨_, ie, g2, g3, _⟩ := hT e te hte
          have hzr := const_sound (T := T) (w := w) (S := S) (bx := bx) (ph := ph) (r := st.r) ti.zero
          rw [hz] at hzr
          obtain ⟨zc, hzv, hzx⟩ := hzr
          obtain ⟨cells', f1, f2⟩ := fill_sound hT h.heap (fields := arrF e te.size n) (place := fun i => some (i * te.size, te.size)) (fun i fd tf hi ht => by
            unfold arrF at hi
            simp only [List.getElem?_toArray, List.getElem?_map] at hi
            cases hr : (List.range n)[i]? with
            | none => rw [hr] at hi; cases hi
            | some m =>
              rw [hr] at hi
              have hm : m = i := by
                rw [List.getElem?_eq_some_iff] at hr
                obtain ⟨q, hq⟩ := hr
                simp at hq; exact hq.symm
              subst hm
              simp only [Option.map_some, Option.some.injEq] at hi
              subst hi
              dsimp only at ht ⊢
              rw [hte] at ht; cases ht; rfl) (parts.toList.map fun p => (p.1, ev st.s p.2)) (parts.toList.map fun p => (p.1, a.eval p.2)) zc zs xs (by simp) (fun k k1 k2 => by
                simp only [List.getElem_map]
                exact ⟨trivial, ev_sound h _⟩) hzx hb
          refine ⟨.agg cells', fun w' => ?_, ⟨cells', rfl, f2⟩⟩
          have hb : (Instr.build t (parts.map fun p => (p.1, a.eval p.2))).run P w' = .ok (.agg cells') w' := run_build w' t _ cells' (by
            simp only [Program.built, h2, ha, h5, g2, hzv, Value.cells, g3]
            simpa using f1)
          simp [execOp, hb]
        · cases hp
      · cases hp
    · cases hp
  · cases hp
end Go.Proofs.Ytcpcghnpoekhpaa.A
/- The ghost machine: calls that read boxes and change nothing: the callee is shown them as9 memory that nobody changes. -/
set_option linter.unusedSimpArgs false
set_option linter.unusedVariables false
set_option maxRecDepth 100000
set_option maxHeartbeats 4000000
namespace Go.Proofs.Ytcpcghnpoekhpaa.A
open Go Go.RowKit
variable {P : Program} {T : TT} {w w' w0 : World} {S S0 : Nat → Prop} {F : Fr} {bx : Nat → Nat} {ph : Nat → Nat → Pv} {a : Act} {st st' : St} {Q : Exit → St → Prop}
abbrev Book := FuncId → List Arg → Option (RV × List Root)
instance : Coe RV (RV × List Root) := ⟨fun r => (r, [])⟩
def rcC : RC → Option C
 | .st c => some c
 | rc => rc.frz
def rdV (r : List Root) : V → Option V
 | .one (.ptr t o) =>
  match rootOf r t with
  | .box row => (match optAll (row.map rcC) with | some cs => if o < row.length then some (.one (.mem cs o)) else none | none => none)
  | _ => none
 | .one (.fn f caps) => if caps.isEmpty then some (.one (.fn f caps)) else none
 | .one (.bfn _ _) => none
 | v => some v
def isPtr : V → Bool
 | .one (.ptr _ _) => true
 | _ => false
def rdCall (T : TT) (j : J) (bk : Book) (st : St) (f : FuncId) (args : List V) : Option ((Nat → V) × St × List Prop) :=
 if args.any isPtr then
  match optAll (args.map (rdV st.r)) with
  | some ys =>
   match optAll (ys.map (argOf T j st.r [])) with
   | some as9 =>
    match bk f as9 with
    | some (ret, []) =>
     if (ret.parts.flatMap (·.2)).any (RC.slicy T) then none else
     some (fun d => retV d ret, { s := kill (lostX []) st.s, r := (setRoots st.r [] []).set st.s.length (.loose (ret.parts.flatMap (·.2))) }, j.pc f as9 ret [] :: (ret.parts.flatMap (·.2)).map (RC.plainObl j))
    | _ => none
   | none => none
  | none => none
 else none
def rdOp (T : TT) (j : J) (bk : Book) (st : St) (o : Oper) : Option (St × List Prop) :=
 match o.op with
 | .call { callee := .value f, args, .. } =>
  match ev st.s f with
  | .one (.fn f' []) =>
   match rdCall T j bk st f' (args.toList.map (ev st.s)) with
   | some (vf, st1, obl) => if dstOk st o.dst then some (fin st1 o.dst vf, obl) else none
   | none => none
  | _ => none
 | _ => none
theorem stab_rd {r : List Root} {S' : Nat → Prop} {u : Value} {y : X} {c : C} (h0 : Heap T w S r bx ph) (hk : ∀ b, S b → S' b)
    (hF : ∀ t o rc c, (r.getD t .none).row[o]? = some rc → rcC rc = some c → CRep w S' (ph t o).v c) (hu : XRep T w S r bx ph u y) (hs : stab T (std P T) r y = some c) : CRep w S' u c := by
  cases y with
  | c c' => simp only [stab, Option.some.injEq] at hs; subst hs; exact CRep.frame hu (fun _ _ => rfl) hk
  | view t o =>
    obtain ⟨e, n, cells, h1, h2⟩ := hu
    simp only [stab, rootOf, h1, Option.some.injEq] at hs
    subst hs; rw [h2]
    exact hF _ _ _ _ h1 rfl
  | sub t o lo hi =>
    obtain ⟨e, n, cells, aa, cap, a', h1, h2, h3, h4, h5, h6, h7⟩ := hu
    simp only [stab, rootOf, h1, Option.some.injEq, mulSz_std] at hs
    subst hs
    have hcr : CRep w S' (ph t o) (.sl n cells) := hF _ _ _ _ h1 rfl
    rw [h2] at hcr
    have e1 : (if lo = 0 then hi else (std P T).sub hi lo) = hi - lo := by
      split
      · omega
      · rfl
    rw [e1, h5]
    exact crep_sub hcr h4 (hcapof hcr h4) (fun hlt => by
      obtain ⟨g, g1, g2⟩ := h7 hlt
      exact ⟨g, 0, g1, by rw [g2, Nat.zero_add]⟩)
  | mv t o =>
    obtain ⟨kk, m, h1, h2⟩ := hu
    simp only [stab, rootOf, h1, Option.some.injEq] at hs
    subst hs; rw [h2]
    exact hF _ _ _ _ h1 rfl
  | ptr t o => cases hs
  | eptr t o k => cases hs
  | tp t o p k off => cases hs
  | tv t o p =>
    obtain ⟨sh, c', hp, q, h1, h2, h3, h4, h5, rfl⟩ := hu
    simp only [stab, treeAt, rootOf, h1] at hs
    cases hp with
    | some hp => cases hs
    | none =>
      simp only [Option.some.injEq] at hs
      subst hs
      rw [slJ_std, atJ_std]
      obtain ⟨t1, _, _, _⟩ := h0.cell h1
      have hcr : CRep w S' (ph t o).v (.sl (gn c') (gc c')) := hF _ _ _ _ h1 rfl
      exact t1.down p hcr h2 h3 h4
  | mem cells off =>
    simp only [stab, Option.some.injEq] at hs
    subst hs
    obtain ⟨b, base, vs, h1, h2, h3, h4⟩ := hu
    rw [h1]
    exact .mem vs (hk _ h2) h3 (fun k hk' => (h4 k hk').frame (fun _ _ => rfl) hk)
  | fn f caps => cases hs
  | bfn f t => cases hs
  | undef => cases hs
theorem rdV_no {r : List Root} {V1 V2 : V} (h : rdV r V1 = some V2) : ptrOf V2 = none ∧ capsOf V2 = [] := by
 unfold rdV at h
 split at h
 ·split at h
  ·split at h
   ·split at h
    ·cases h; exact ⟨rfl, rfl⟩
    ·cases h
   ·cases h
  ·cases h
 ·split at h
  ·rename_i f caps hc
   cases h
   exact ⟨rfl, List.isEmpty_iff.1 hc⟩
  ·cases h
 ·cases h
 ·rename_i h1 h2 h3
  cases h
  refine ⟨?_, ?_⟩
  ·unfold ptrOf; split
   ·exact absurd rfl (h1 _ _)
   ·rfl
  ·unfold capsOf; split
   ·exact absurd rfl (h2 _ _)
   ·rfl
theorem rd_arg {S' : Nat → Prop} {v : Value} {V1 V2 : V} {x : Arg} {b0 : Nat} (h0 : Heap T w S st.r bx ph) (hk : ∀ b, S b → S' b) (ho : ∀ t κ b, owns st.r bx ph t κ b → S' b)
  (hF : ∀ t o rc c, (st.r.getD t .none).row[o]? = some rc → rcC rc = some c → CRep w S' (ph t o).v c) (hv : VRep T w S st.r bx ph v V1) (h : rdV st.r V1 = some V2) (hx : argOf T (std P T) st.r [] V2 = some x) : ArgRep w S' (fun _ => b0) b0 v x := by
 have other : ∀ {V : V}, VRep T w S st.r bx ph v V → ptrOf V = none → capsOf V = [] → argOf T (std P T) st.r [] V = some x → ArgRep w S' (fun _ => b0) b0 v x := fun {V} hv hp hc hx =>
  arg_sound (P := P) (S' := S') (ts := []) (bxs := fun _ => b0) (k := 0) hv hx (fun j t hj => by simp at hj) (fun t ht => by rw [hc] at ht; cases ht) (fun t ht => by rw [hp] at ht; cases ht) (fun y _ _ u c hu hs => stab_rd h0 hk hF hu hs)
 have h1 := h
 unfold rdV at h1
 split at h1
 ·rename_i t o
  split at h1
  ·rename_i row hr
   split at h1
   ·rename_i cs hcs
    split at h1
    ·rename_i hlt
     cases h1
     obtain ⟨row', k1, k2, k3⟩ := hv
     have hr' : st.r.getD t .none = .box row := hr
     simp only [argOf, handed, rootX, stab, Bool.false_eq_true, if_false] at hx
     cases hx
     refine ⟨_, rfl, ?_⟩
     have hroot := h0.root t
     rw [hr'] at hroot
     obtain ⟨⟨arr, e, q1, q2, q3⟩, q4, _⟩ := hroot
     have hcs2 := optAll_some _ _ hcs
     have hl : cs.length = row.length := by have := congrArg List.length hcs2; simpa using this.symm
     have e1 : (⟨bx t, o, none⟩ : Addr) = ⟨bx t, 0 + o, none⟩ := by rw [Nat.zero_add]
     rw [k3, e1]
     refine .mem (fun j => (ph t j).v) (ho t none _ (owns_of_box hr')) (fun j hj => ?_) (fun j hj => ?_)
     ·have := q3 j (by omega)
      rw [Nat.zero_add]
      simp only [World.cell?, q1, Option.bind_some]
      first | exact this | simpa [World.cell?] using this
     ·refine hF t j row[j] _ (by rw [hr']; exact List.getElem?_eq_getElem (show j < row.length by omega)) ?_
      have := congrArg (fun l => l[j]?) hcs2
      simpa only [List.getElem?_map, List.getElem?_eq_getElem hj, List.getElem?_eq_getElem (show j < row.length by omega), Option.map_some, Option.some.injEq] using this
    ·cases h1
   ·cases h1
  ·cases h1
 ·split at h1
  ·cases h1; exact other hv (rdV_no h).1 (rdV_no h).2 hx
  ·cases h1
 ·cases h1
 ·cases h1; exact other hv (rdV_no h).1 (rdV_no h).2 hx
theorem rdCall_sound (h : Rel T w0 S0 F st a w S bx ph) (hsp : st.r.getD st.s.length .none = .none) {bk : Book} {f : FuncId} {vs : List Value} {args : List V} {vf : Nat → V} {st1 : St} {obl : List Prop}
    (hl : vs.length = args.length) (hv : ∀ k (h1 : k < args.length) (h2 : k < vs.length), VRep T w S st.r bx ph vs[k] args[k])
    (hp : rdCall T (std P T) bk st f args = some (vf, st1, obl)) (ho : ∀ p ∈ obl, p) {dst : Option Nat} (hdst : ∀ k, dst = some k → k < st.s.length) :
    Enters P f ∧ Calls P f vs.toArray w fun e w' => ∃ z, e = .returned z ∧ Rels T w0 S0 F (fin st1 dst vf) (a.put dst z) w' ∧ Old w w' := by
  unfold rdCall at hp
  split at hp
  · split at hp
    · rename_i ys hys
      split at hp
      · rename_i as9 has
        split at hp
        · rename_i ret hbk
          split at hp
          · cases hp
          · rename_i hns
            simp only [Option.some.injEq, Prod.mk.injEq] at hp
            obtain ⟨rfl, rfl, rfl⟩ := hp
            obtain ⟨hen, hpc⟩ : Enters P f ∧ PC P T f as9 ret [] := ho _ (List.mem_cons_self ..)
            refine ⟨hen, ?_⟩
            have hys2 := optAll_some _ _ hys
            have has2 := optAll_some _ _ has
            have hyl : ys.length = args.length := by have := congrArg List.length hys2; simpa using this.symm
            have hal : as9.length = ys.length := by have := congrArg List.length has2; simpa using this.symm
            have hrd : ∀ k (h1 : k < ys.length) (h2 : k < args.length), rdV st.r args[k] = some ys[k] := fun k h1 h2 => by
              have := congrArg (fun l => l[k]?) hys2
              simpa only [List.getElem?_map, List.getElem?_eq_getElem h1, List.getElem?_eq_getElem h2, Option.map_some, Option.some.injEq] using this
            have hargs : ∀ k (h1 : k < as9.length) (h2 : k < ys.length), argOf T (std P T) st.r [] ys[k] = some as9[k] := fun k h1 h2 => by
              have := congrArg (fun l => l[k]?) has2
              simpa only [List.getElem?_map, List.getElem?_eq_getElem h1, List.getElem?_eq_getElem h2, Option.map_some, Option.some.injEq] using this
            let S2 : Nat → Prop := fun b => S b ∨ ∃ t κ, owns st.r bx ph t κ b
            have hF : ∀ t o rc c, (st.r.getD t .none).row[o]? = some rc → rcC rc = some c → CRep w S2 (ph t o).v c := fun t o rc c hr hc => by
              have hcell := h.heap.cell hr
              have fr : ∀ c, rc.frz = some c → CRep w S2 (ph t o).v c := fun c hc => (hcell.stillC hc).frame (fun _ _ => rfl) fun b hb => hb.imp id fun hb => ⟨t, some o, own_blk hr hb⟩
              cases rc with
              | st c' => cases hc; exact CRep.frame hcell (fun _ _ => rfl) fun b hb => .inl hb
              | own e n cells => exact fr _ hc
              | map kk m => exact fr _ hc
              | tree sh c' p => exact fr _ hc
              | me f => exact fr _ hc
              | dead => exact fr _ hc
            have hrep : ∀ i (h1 : i < as9.length) (h2 : i < vs.length), ArgRep w S2 (fun _ => bx 0) (bx 0) vs[i] as9[i] := fun i h1 h2 =>
              rd_arg h.heap (fun b hb => .inl hb) (fun t κ b hb => .inr ⟨t, κ, hb⟩) hF (hv i (by omega) h2) (hrd i (by omega) (by omega)) (hargs i h1 (by omega))
            have hroots : ∀ x ∈ as9, x.real = true ∧ x.asRoot = .none := fun x hx => by
              obtain ⟨k, hk, rfl⟩ := List.mem_iff_getElem.1 hx
              have := arg_root (hargs k hk (by omega))
              rw [(rdV_no (hrd k (by omega) (by omega))).1] at this
              exact this
            have hreal : reals as9 = vs.length := by
              unfold reals
              rw [List.filter_eq_self.2 (fun x hx => (hroots x hx).1), hal, hyl, hl]
            have hheap : Heap T w S2 (as9.map Arg.asRoot) (fun _ => bx 0) (fun _ => ph 0) := heap_nones as9 (fun x hx => (hroots x hx).2) ⟨fun b hb => hb.elim (h.heap.low.1 b) fun ⟨t, κ, hb⟩ => (h.heap.free t κ b hb).2, h.heap.low.2.frame (fun _ _ => rfl) fun b hb => .inl hb⟩
            have hnone : ∀ k κ b, ¬ owns (as9.map Arg.asRoot) (fun _ => bx 0) (fun _ => ph 0) k κ b := fun k κ b hb => (owns_none _ _ _ (nones_getD as9 (fun x hx => (hroots x hx).2) k) _ _ hb).elim
            refine (hpc w S2 (fun _ => bx 0) (fun _ => ph 0) vs hheap hreal.symm hrep).mono fun e w' ⟨z, S3, bx', ph', he, hg⟩ => ⟨z, he, ?_, fun b hb => hg.chg.block b hb fun ⟨k, κ, hk⟩ => hnone _ _ _ hk⟩
            obtain ⟨S4, ph2, h5, h6, h7, _, _⟩ := call_merge (ts := []) (R := as9.map Arg.asRoot) (us := []) (ret := ret) (upd := []) h hsp rfl (by simp) rfl (fun k => rfl)
              (by simpa using hg)
              (fun k κ b hb' => absurd hb' (by simpa using hnone k κ b))
              (fun o ho' => plain_rep (P := P) (hg.heap.root 0 o ho') (by
                cases hh : RC.slicy T (ret.parts.flatMap (·.2))[o] with
                | false => rfl
                | true => exact absurd (List.any_eq_true.2 ⟨_, List.getElem_mem ho', hh⟩) hns) (ho _ (List.mem_cons_of_mem _ (List.mem_map.2 ⟨_, List.getElem_mem ho', rfl⟩))))
              (fun k row hk => by simp at hk)
            have hkl : (kill (lostX []) st.s).length = st.s.length := by simp [kill]
            refine fin_sound h5 (fun k hk => by show k < (kill (lostX []) st.s).length; rw [hkl]; exact hdst k hk) (fun k bx2 ph3 hk e1 e2 e3 hh3 => ?_)
            have e1' : ∀ o, ph3 k o = ph2 st.s.length o := fun o => by rw [e1 o]; show ph2 (kill (lostX []) st.s).length o = _; rw [hkl]
            have e3' := e3
            rw [show ({ s := kill (lostX []) st.s, r := (setRoots st.r [] []).set st.s.length (.loose (ret.parts.flatMap (·.2))) } : St).s.length = st.s.length from hkl] at e3'
            refine retV_sound (row := ret.parts.flatMap (·.2)) (φ := ph' 0) rfl (fun o rc hrc => ?_) hg.val
            have e5 := e3'.trans h6
            have h9 : ph3 k o = ph' 0 o := by rw [e1' o, h7 o]
            rw [← h9]
            refine rcX_sound (st := name { s := kill (lostX []) st.s, r := (setRoots st.r [] []).set st.s.length (.loose (ret.parts.flatMap (·.2))) } k) hh3 ?_
            rw [e5]; exact hrc
        · cases hp
      · cases hp
    · cases hp
  · cases hp
theorem rdOp_sound (h : Rels T w0 S0 F st a w) {bk : Book} {o : Oper} {obl : List Prop} (hp : rdOp T (std P T) bk st o = some (st', obl)) (ho : ∀ p ∈ obl, p)
  {K : Act → World → Prop} {Q : Exit → Act → World → Prop} (hK : ∀ z w', Rels T w0 S0 F st' (a.put o.dst z) w' → Old w w' → K (a.put o.dst z) w') : o.wp P a w K Q := by
 obtain ⟨S, bx, ph, h1, hsp⟩ := h
 obtain ⟨dst, op, type, pos, after, guard⟩ := o
 unfold rdOp at hp
 dsimp only at hp hK
 split at hp
 ·rename_i f args ats
  split at hp
  ·rename_i f' hf
   split at hp
   ·rename_i vf st1 obl' hc
    split at hp
    ·rename_i hd
     simp only [Option.some.injEq, Prod.mk.injEq] at hp
     obtain ⟨rfl, rfl⟩ := hp
     have huf := ev_sound h1 f
     rw [hf] at huf
     obtain ⟨hfv, _⟩ := huf
     obtain ⟨r1, r2⟩ := rdCall_sound h1 hsp (vs := args.toList.map a.eval) (by simp) (vals_of h1) hc ho (dst := dst) (fun k hk => by rw [hk] at hd; simpa [dstOk] using hd)
     unfold Oper.wp
     have hrun : (execOp a.eval ⟨dst, .call { callee := .value f, args := args, argTypes := ats }, type, pos, after, guard⟩).run P w = .ok (.enter f' (args.toList.map a.eval).toArray) w := by
      have := r1 (args.map a.eval) w
      have e1 : args.map a.eval = (args.toList.map a.eval).toArray := Array.toList_inj.1 (by simp)
      rw [e1] at this
      simp only [execOp, resolve, Deferred.ofValue, hfv, invoke, Sem.run_bind, Sem.run_pure, Result.andThen_ok]
      simpa [e1] using this
     rw [hrun]
     refine r2.mono fun e w' ⟨z, he, h2, h3⟩ => ?_
     subst he
     exact hK z w' h2 h3
    ·cases hp
   ·cases hp
  ·cases hp
 ·cases hp
end Go.Proofs.Ytcpcghnpoekhpaa.A
/- The ghost machine: maps of one's own that are handed to a callee that turns them; what is taken out of a map. -/
set_option linter.unusedSimpArgs false
set_option linter.unusedVariables false
set_option maxRecDepth 100000
set_option maxHeartbeats 4000000
namespace Go.Proofs.Ytcpcghnpoekhpaa.A
open Go Go.RowKit
variable {P : Program} {T : TT} {w w' w0 : World} {S S0 : Nat → Prop} {F : Fr} {bx : Nat → Nat} {ph : Nat → Nat → Pv} {a : Act} {st st' : St} {Q : Exit → St → Prop}
theorem map_erase {α β : Type} (f : α → β) : ∀ (l : List α) (i : Nat), (l.eraseIdx i).map f = (l.map f).eraseIdx i := by
 intro l
 induction l with
 | nil => intro i; rfl
 | cons x l ih => intro i; cases i with
  | zero => rfl
  | succ i => simp only [List.eraseIdx_cons_succ, List.map_cons, ih]
theorem MEs.cut {kk : KK} {m : GM} {es : Array MapEntry} (h : MEs w S kk m es) (i : Nat) : MEs w S kk (m.cut i) (es.eraseIdxIfInBounds i) := by
 have hl := h.size
 have e : (es.eraseIdxIfInBounds i).toList = es.toList.eraseIdx i := by
  by_cases hi : i < es.size
  ·rw [Array.eraseIdxIfInBounds, dif_pos hi, Array.toList_eraseIdx]
  ·rw [Array.eraseIdxIfInBounds, dif_neg hi, List.eraseIdx_of_length_le (by simpa using hi)]
 refine ⟨by rw [e, map_erase, h.keys]; rfl, by rw [e, map_erase, h.born]; rfl, fun k h1 h2 => ?_, fun k hk => h.ok k (List.mem_of_mem_eraseIdx hk)⟩
 have h1' : k < (es.toList.eraseIdx i).length := by rw [← e, Array.length_toList]; exact h1
 have e2 : (es.eraseIdxIfInBounds i)[k] = (es.toList.eraseIdx i)[k] := by
  rw [← Array.getElem_toList]; simp only [e]
 have h2' : k < (m.vs.eraseIdx i).length := h2
 rw [e2]
 show CRep w S _ (m.vs.eraseIdx i)[k]
 rw [List.getElem_eraseIdx, List.getElem_eraseIdx]
 split
 ·rw [Array.getElem_toList]; exact h.val k _ _
 ·rw [Array.getElem_toList]; exact h.val (k + 1) _ _
theorem run_delete (hT : TOk P T) {t kt ty : TypeId} {kk : KK} {te : TI} (ht : mapTy T t = some (kk, te)) {b : Nat} {m : GM} {es : Array MapEntry} {k : Value} (hb : w.heap[b]? = some (.map es m.clock)) (h : MEs w S kk m es) (hok : kk.ok k = true) :
  ∃ es', (Builtin.delete_ #[t, kt] ty #[.map (some b), k]).run P w = .ok (.tuple #[]) (setBlk w b (.map es' (m.del k).clock)) ∧ MEs w S kk (m.del k) es' := by
 obtain ⟨k1, e, h1, h2, h3, _, _⟩ := mapTy_desc hT ht
 have hf := run_findKey hT h2 hok es.toList (fun e he => h.ok _ (by rw [← h.keys]; exact List.mem_map.2 ⟨e, he, rfl⟩)) w
 rw [h.keys] at hf
 unfold GM.del
 cases hq : kidx m.ks k with
 | none =>
  refine ⟨es, ?_, h⟩
  rw [hq] at hf
  simp [Builtin.delete_, Sem.run_bind, run_underlying h1, run_gm hb, run_checkKey hT h2, hf, run_sm _ hb]
 | some i =>
  refine ⟨_, ?_, h.cut i⟩
  rw [hq] at hf
  simp [Builtin.delete_, Sem.run_bind, run_underlying h1, run_gm hb, run_checkKey hT h2, hf, run_sm _ hb, GM.cut]
def plainA : V → Option Arg
 | .one (.c c) => some (.v false [c])
 | .agg xs => match plainC xs with | some cs => some (.v true cs) | none => none
 | _ => none
theorem plainA_sound {r : List Root} {v : Value} {V1 : V} {x : Arg} (hv : VRep T w S r bx ph v V1) (h : plainA V1 = some x) : ArgRep w S (fun _ => 0) 0 v x := by
 unfold plainA at h
 split at h
 ·cases h; exact ⟨_, rfl, hv⟩
 ·rename_i xs
  split at h
  ·rename_i cs hcs
   cases h
   have hx := plainC_get xs cs hcs
   obtain ⟨us, rfl, h1, h2⟩ := hv
   have hlen : cs.length = xs.length := by rw [hx]; simp
   refine ⟨us, rfl, by omega, fun k hk hk2 => ?_⟩
   have := h2 k (by omega) hk2
   have e : xs[k]'(by omega) = .c cs[k] := by simp [hx]
   rw [e] at this
   exact this
  ·cases h
 ·cases h
def mpOp (T : TT) (j : J) (bk : Book) (st : St) (o : Oper) : Option (St × List Prop) :=
 match o.op with
 | .call { callee := .value f, args, .. } =>
  match ev st.s f, args.toList with
  | .one (.fn f' []), x :: rest =>
   match ev st.s x with
   | .one (.mv t o') =>
    match mapAt st.r t o', optAll (rest.map fun y => plainA (ev st.s y)) with
    | some (kk, m), some as9 =>
     match bk f' (.root (.loose [.map kk m]) :: as9) with
     | some (⟨true, []⟩, [.loose [.map kk' m']]) => if kk = kk' ∧ dstOk st o.dst = true then some (fin { st with r := setMap st.r t o' kk m' } o.dst (fun _ => .undef), [j.pcm f' kk m as9 m']) else none
     | some (⟨false, [(false, [.map kk' m'])]⟩, []) => if kk = kk' ∧ as9.isEmpty = true ∧ dstOk st o.dst = true then some (fin { st with r := pushR st.r st.s.length (.map kk m') } o.dst (fun d => .one (.mv d 0)), [j.pcl f' kk m m']) else none
     | _ => none
    | _, _ => none
   | _ => none
  | _, _ => none
 | .call { callee := .builtin .delete, args, argTypes } =>
  match args.toList, argTypes.toList with
  | [x, k], [t, _] =>
   match mapTy T t, ev st.s x, keyOf (ev st.s k) with
   | some (kk, _), .one (.mv t' o'), some k =>
    match mapAt st.r t' o' with
    | some (kk', m) => if kk = kk' ∧ kk.ok k = true ∧ dstOk st o.dst = true then some (fin { st with r := setMap st.r t' o' kk (j.mdel m k) } o.dst (fun _ => .undef), []) else none
    | none => none
   | _, _, _ => none
  | _, _ => none
 | .insert t m k v =>
  match mapOp T j st ⟨o.dst, .mapUpdate t m k v, o.type, o.pos, o.after, o.guard⟩ with
  | some (vf, st1, obl) => if dstOk st o.dst = true then some (fin st1 o.dst vf, obl) else none
  | none => none
 | _ => none
def wrB (T : TT) (j : J) (bk : Book) (st : St) (o : Oper) : Bool := writes st o && (rdOp T j bk st o).isNone || (mpOp T j bk st o).isSome
theorem mpOp_sound (hT : TOk P T) (h : Rels T w0 S0 F st a w) {bk : Book} {o : Oper} {obl : List Prop} (hp : mpOp T (std P T) bk st o = some (st', obl)) (ho : ∀ p ∈ obl, p)
    {K : Act → World → Prop} {Q : Exit → Act → World → Prop} (hK : ∀ z w', Rels T w0 S0 F st' (a.put o.dst z) w' → K (a.put o.dst z) w') : o.wp P a w K Q := by
  obtain ⟨S, bx, ph, h1, hsp⟩ := h
  obtain ⟨dst, op, type, pos, after, guard⟩ := o
  unfold mpOp at hp
  dsimp only at hp hK
  split at hp
  · rename_i f args ats
    split at hp
    · rename_i f' x rest hf hargs
      split at hp
      · rename_i t o' hx
        split at hp
        · rename_i kk m as9 hm has
          split at hp
          · rename_i kk' m' hbk
            split at hp
            · rename_i hc
              obtain ⟨rfl, hd⟩ := hc
              simp only [Option.some.injEq, Prod.mk.injEq] at hp
              obtain ⟨rfl, rfl⟩ := hp
              have hcell := mapAt_eq hm
              obtain ⟨hen, hpc⟩ : Enters P f' ∧ PCM P T f' kk m as9 m' := ho _ (List.mem_cons_self ..)
              have huf := ev_sound h1 f
              rw [hf] at huf
              obtain ⟨hfv, _⟩ := huf
              have hxv := ev_sound h1 x
              rw [hx] at hxv
              obtain ⟨kk2, m2, q1, q2⟩ := hxv
              have has2 := optAll_some _ _ has
              have hal : as9.length = rest.length := by have := congrArg List.length has2; simpa using this.symm
              have hrep := h1.heap.cell hcell
              obtain ⟨b, hb, hmr⟩ := hrep
              have hog : owns st.r bx ph t (some o') b := own_blk hcell (by show ownB (ph t o').v = _; rw [hb]; rfl)
              have hargr : ∀ i (h : i < as9.length) (h2 : i < (rest.map a.eval).length), ArgRep w S (fun _ => 0) 0 (rest.map a.eval)[i] as9[i] := fun i hi hi2 => by
                have hi3 : i < rest.length := by omega
                rw [List.getElem_map]
                refine plainA_sound (ev_sound h1 rest[i]) ?_
                have := congrArg (fun l => l[i]?) has2
                simpa only [List.getElem?_map, List.getElem?_eq_getElem hi, List.getElem?_eq_getElem hi3, Option.map_some, Option.some.injEq] using this
              have hcall := hpc w S (ph t o').v (rest.map a.eval) h1.heap.low.1 ⟨b, hb, hmr⟩ (fun b' hb' => by
                rw [hb] at hb'; cases hb'; exact h1.heap.free _ _ _ hog) (by simp [hal]) hargr
              unfold Oper.wp
              have hrun : (execOp a.eval ⟨dst, .call { callee := .value f, args := args, argTypes := ats }, type, pos, after, guard⟩).run P w = .ok (.enter f' ((ph t o').v :: rest.map a.eval).toArray) w := by
                have := hen (args.map a.eval) w
                have e1 : args.map a.eval = ((ph t o').v :: rest.map a.eval).toArray := Array.toList_inj.1 (by simp [hargs, q2])
                rw [e1] at this
                simp only [execOp, resolve, Deferred.ofValue, hfv, invoke, Sem.run_bind, Sem.run_pure, Result.andThen_ok]
                simpa [e1] using this
              rw [hrun]
              refine hcall.mono fun en w' ⟨he, hcg, hnew⟩ => ?_
              subst he
              refine hK _ _ (fin_sound (S := S) (bx := bx) (ph := ph) ?_ (fun k hk => by rw [hk] at hd; simpa [dstOk] using hd) (fun _ _ _ _ _ _ _ _ => trivial))
              exact cell_write h1 hcell rfl (fun _ _ _ e => by cases e) (fun _ _ _ => ⟨_, _, rfl⟩) (fun _ _ _ e => by cases e) hog (hcg.mono fun b' _ hq => by rw [hb] at hq; cases hq; rfl) hnew
            · cases hp
          · rename_i kk' m' hbk
            split at hp
            · rename_i hc
              obtain ⟨rfl, he, hd⟩ := hc
              simp only [Option.some.injEq, Prod.mk.injEq] at hp
              obtain ⟨rfl, rfl⟩ := hp
              have hcell := mapAt_eq hm
              obtain ⟨hen, hpc⟩ : Enters P f' ∧ PCL P T f' kk m m' := ho _ (List.mem_cons_self ..)
              have huf := ev_sound h1 f
              rw [hf] at huf
              obtain ⟨hfv, _⟩ := huf
              have hxv := ev_sound h1 x
              rw [hx] at hxv
              obtain ⟨kk2, m2, q1, q2⟩ := hxv
              have has2 := optAll_some _ _ has
              have hrest : rest = [] := by
                have := congrArg List.length has2
                rw [List.isEmpty_iff.1 he] at this
                exact List.eq_nil_of_length_eq_zero (by simpa using this)
              subst hrest
              obtain ⟨b, hb, hmr⟩ := h1.heap.cell hcell
              have hog : owns st.r bx ph t (some o') b := own_blk hcell (by show ownB (ph t o').v = _; rw [hb]; rfl)
              have hcall := hpc w S (ph t o').v h1.heap.low.1 ⟨b, hb, hmr⟩ (fun b' hb' => by
                rw [hb] at hb'; cases hb'; exact h1.heap.free _ _ _ hog)
              unfold Oper.wp
              have hrun : (execOp a.eval ⟨dst, .call { callee := .value f, args := args, argTypes := ats }, type, pos, after, guard⟩).run P w = .ok (.enter f' #[(ph t o').v]) w := by
                have := hen (args.map a.eval) w
                have e1 : args.map a.eval = #[(ph t o').v] := Array.toList_inj.1 (by simp [hargs, q2])
                rw [e1] at this
                simp only [execOp, resolve, Deferred.ofValue, hfv, invoke, Sem.run_bind, Sem.run_pure, Result.andThen_ok]
                simpa [e1] using this
              rw [hrun]
              refine hcall.mono fun en w' ⟨b2, he2, hge, hlt, hcg, hnew⟩ => ?_
              subst he2
              have hw := h1.world (W := fun _ => False) hcg (fun _ _ hf => hf.elim)
              obtain ⟨g1, g2⟩ := pushOwn (z := .of (.map (some b2))) hw hsp (rc := .map kk m') hnew (fun b' hb' => by
                obtain rfl : b2 = b' := Option.some.inj hb'
                exact ⟨fun hs => absurd (h1.heap.low.1 _ hs) (by omega), hlt, fun t κ ho => absurd (h1.heap.free _ _ _ ho).2 (by omega), .inl (Nat.le_trans h1.chg.size hge)⟩)
              refine hK _ _ (fin_sound g1 (fun k hk => by rw [hk] at hd; simpa [dstOk] using hd) (fun k bx' ph' hk e1 e2 e3 hh => ?_))
              refine ⟨kk, m', ?_, ?_⟩
              · have : (name { st with r := pushR st.r st.s.length (.map kk m') } k).r.getD k .none = _ := e3
                show ((name { st with r := pushR st.r st.s.length (.map kk m') } k).r.getD k .none).row[0]? = _
                rw [this]
                show ((pushR st.r st.s.length (.map kk m')).getD st.s.length .none).row[0]? = _
                rw [g2]; rfl
              · rw [e1 0]; simp [phPush]; rfl
            · cases hp
          · cases hp
        · cases hp
      · cases hp
    · cases hp
  · rename_i args ats
    split at hp
    · rename_i x k t t2 hargs hats
      split at hp
      · rename_i kk te t' o' k' hty hx hk
        split at hp
        · rename_i kk' m hm
          split at hp
          · rename_i hc
            obtain ⟨rfl, hok, hd⟩ := hc
            simp only [Option.some.injEq, Prod.mk.injEq] at hp
            obtain ⟨rfl, rfl⟩ := hp
            have hcell := mapAt_eq hm
            obtain ⟨b, hb, es, e1, e2, e3, e4, e5⟩ := h1.heap.cell hcell
            have hxv := ev_sound h1 x
            rw [hx] at hxv
            obtain ⟨kk2, m2, q1, q2⟩ := hxv
            have hkv := keyOf_sound (ev_sound h1 k) hk
            have hmes : MEs w S kk m es := ⟨e2, e3, e4, e5⟩
            obtain ⟨es', r1, r2⟩ := run_delete (kt := t2) (ty := type) hT hty e1 hmes hok
            have hax : args = #[x, k] := by cases args; simp_all
            have hat : ats = #[t, t2] := by cases ats; simp_all
            subst hax; subst hat
            have hev : a.eval x = .map (some b) := q2.trans hb
            refine wp_value (z := .tuple #[]) (w' := setBlk w b (.map es' (m.del k').clock)) ?_ (hK _ _ (fin_sound (map_write h1 hcell hb e1 r2) (fun k hk => by rw [hk] at hd; simpa [dstOk] using hd) (fun _ _ _ _ _ _ _ _ => trivial)))
            simp [execOp, resolve, invoke, builtin, hev, hkv, r1]
          · cases hp
        · cases hp
      · cases hp
    · cases hp
  · rename_i t m k v
    split at hp
    · rename_i vf st1 obl1 hmo
      split at hp
      · rename_i hd
        simp only [Option.some.injEq, Prod.mk.injEq] at hp
        obtain ⟨rfl, rfl⟩ := hp
        exact mapOp_sound (o := ⟨dst, .mapUpdate t m k v, type, pos, after, guard⟩) hT h1 hsp hmo ho (fun k hk => by have hk : dst = some k := hk; rw [hk] at hd; simpa [dstOk] using hd) (K := K) (Q := Q) (fun z w' hz _ => hK z w' hz)
      · cases hp
    · cases hp
  · cases hp
end Go.Proofs.Ytcpcghnpoekhpaa.A
/- The ghost machine, part 28: regions whose tests split the proof by themselves; calls by a book of contracts. -/
set_option linter.unusedSimpArgs false
set_option linter.unusedVariables false
set_option maxRecDepth 100000
set_option maxHeartbeats 4000000
namespace Go.Proofs.Ytcpcghnpoekhpaa.A
open Go Go.RowKit
variable {P : Program} {T : TT} {w w' w0 : World} {S S0 : Nat → Prop} {F : Fr} {bx : Nat → Nat} {ph : Nat → Nat → Pv} {a : Act} {st st' : St} {Q : Exit → St → Prop}
inductive Tr where
 | done (st : St)
 | ob (l : List Prop) (t : Tr)
 | cut (b : Bool) (x y : Tr)
 | alt (n : Nat) (x y : Tr)
 | bad
def Tr.with : List Prop → Tr → Tr
 | [], t => t
 | l, t => .ob l t
def TrOk (R : St → Prop) : Tr → Prop
 | .done st => R st
 | .ob l t => (∀ p ∈ l, p) ∧ TrOk R t
 | .cut b x y => (b = true → TrOk R x) ∧ (b = false → TrOk R y)
 | .alt n x y => (n = 0 → TrOk R x) ∧ TrOk R y
 | .bad => False
theorem tr_done {R : St → Prop} (h : R st) : TrOk R (.done st) := h
theorem tr_ob {R : St → Prop} {l : List Prop} {t : Tr} (h : ∀ p ∈ l, p) (k : TrOk R t) : TrOk R (.ob l t) := ⟨h, k⟩
theorem tr_cut {R : St → Prop} {b : Bool} {x y : Tr} (h : b = true → TrOk R x) (k : b = false → TrOk R y) : TrOk R (.cut b x y) := ⟨h, k⟩
theorem tr_alt {R : St → Prop} {n : Nat} {x y : Tr} (h : n = 0 → TrOk R x) (k : TrOk R y) : TrOk R (.alt n x y) := ⟨h, k⟩
def nilAsk (T : TT) (st : St) (o : Oper) : Option (Nat × Bool) :=
 match o.op with
 | .binOp op t x y _ =>
  match descOf T t, ev st.s y, ev st.s x with
  | .slice _, .one (.c .nil), .one (.c (.sl n _)) => (match op with | .eql => some (n, true) | .neq => some (n, false) | _ => none)
  | .slice _, .one (.c .nil), .one (.view t' o') => (match ownAt st.r t' o', op with | some (_, n, _), .eql => some (n, true) | some (_, n, _), .neq => some (n, false) | _, _ => none)
  | _, _, _ => none
 | _ => none
def nilGo : Option (Nat × Bool) → Tr → (Bool → Tr) → Tr
 | none, t, _ => t
 | some (n, b), _, f => .alt n (f b) (f (!b))
def putB (st : St) (d : Option Nat) (b : Bool) : St := put st d (.one (.c (.val (.bool b))))
theorem tr_with {R : St → Prop} {l : List Prop} {t : Tr} (h : TrOk R (Tr.with l t)) : (∀ p ∈ l, p) ∧ TrOk R t := by
 cases l with
 | nil => exact ⟨fun _ h => absurd h (by simp), h⟩
 | cons p l => exact h
def crT (T : TT) (j : J) (bk : Book) (st : St) (o : Oper) (i : Nat) : List (Nat × (RV × List Root)) :=
 match o.op with
 | .call { callee := .value f, args, .. } =>
  match ev st.s f with
  | .one (.fn f' caps) =>
   let xs := args.toList.map (ev st.s) ++ caps.map fun t => V.one (.ptr t 0)
   let ts := tsOf xs
   match optAll (xs.map (argOf T j st.r ts)), optAll ((ts.drop xs.length).map (virtOf st.r)) with
   | some as9, some vs => (match bk f' (as9 ++ vs) with | some cr => [(i, cr)] | none => [])
   | _, _ => []
  | .one (.bfn f' t) =>
   let xs := V.one (.ptr t 0) :: args.toList.map (ev st.s)
   let ts := tsOf xs
   match optAll (xs.map (argOf T j st.r ts)) with
   | some as9 => (match bk f' as9 with | some cr => [(i, cr)] | none => [])
   | _ => []
  | _ => []
 | _ => []
def slotB (st : St) (d : Nat) : Option Bool :=
 match st.s.getD d .undef with
 | .one (.c (.val (.bool b))) => some b
 | _ => none
def setB (st : St) (d : Nat) (b : Bool) : St := { st with s := st.s.set d (.one (.c (.val (.bool b)))) }
def guardD (ops : List Oper) (o : Oper) : Option Nat :=
 match o.guard with
 | some (k, _) => (ops[k]?).bind (·.dst)
 | none => none
def wantT (ops : List Oper) (st : St) (o : Oper) : Option Bool :=
 match o.guard with
 | none => some true
 | some (k, want) =>
  match (ops[k]?).bind (·.dst) with
  | some d =>
   match st.s.getD d .undef with
   | .one (.c (.val (.bool b))) => some (b == want)
   | .nop => some false
   | _ => none
  | none => none
def pickD (o : Oper) : Option Nat :=
 match o.op with
 | .pick (.tmp d) _ _ => some d
 | _ => none
def stepT0 (T : TT) (j : J) (bk : Book) (ops : List Oper) (st : St) (o : Oper) (i : Nat) : Option (St × List Prop) :=
 match o.op with
 | .pick c a b =>
  match ev st.s c with
  | .one (.c (.val (.bool t))) => some (put st o.dst (if t then ev st.s a else ev st.s b), [])
  | _ => none
 | _ => step1 T j ⟨[], [], crT T j bk st o i⟩ ops st o i
def stepT (T : TT) (j : J) (bk : Book) (ops : List Oper) (st : St) (o : Oper) (i : Nat) : Option (St × List Prop) :=
 match xtraOp T j st o with
 | some (v, obl) => some (put st o.dst v, obl)
 | none => match rdOp T j bk st o with
  | some r => some r
  | none => match mpOp T j bk st o with | some r => some r | none => stepT0 T j bk ops st o i
def askT (kn : List Nat) (st : St) : Option Nat → Option (Nat × Bool)
 | some d => if kn.contains d then none else match slotB st d with | some b => some (d, b) | none => none
 | none => none
def knownOp (kn : List Nat) : Operand → Bool
 | .const _ => true
 | .tmp d => kn.contains d
 | _ => false
def learnIf (kn : List Nat) (d : Nat) (b : Bool) : List Nat := if b then d :: kn else kn
def learn (kn : List Nat) (st : St) (o : Oper) : List Nat :=
 match o.dst with
 | none => kn
 | some d =>
  match o.op with
  | .move x => learnIf kn d (knownOp kn x)
  | .assign x => learnIf kn d (knownOp kn x)
  | .pick c a b =>
   match ev st.s c with
   | .one (.c (.val (.bool t))) => learnIf kn d (if t then knownOp kn a else knownOp kn b)
   | _ => kn
  | _ => kn
def runT (T : TT) (j : J) (bk : Book) (ops : List Oper) : List Nat → St → List Oper → Nat → Tr
  | _, st, [], _ => .done st
  | kn, st, o :: rest, i =>
    let g2 := fun kn st => nilGo (nilAsk T st o) (match stepT T j bk ops st o i with
      | some (st1, obl) => Tr.with obl (runT T j bk ops (learn kn st o) st1 rest (i + 1))
      | none => .bad) (fun b => runT T j bk ops (learnIf kn (o.dst.getD 0) o.dst.isSome) (putB st o.dst b) rest (i + 1))
    let g1 := fun kn st =>
      match wantT ops st o with
      | some true =>
        match askT kn st (pickD o) with
        | some (d, b) => .cut b (g2 (d :: kn) (setB st d true)) (g2 (d :: kn) (setB st d false))
        | none => g2 kn st
      | some false => runT T j bk ops kn (put st o.dst .nop) rest (i + 1)
      | none => .bad
    match askT kn st (guardD ops o) with
    | some (d, b) => .cut b (g1 (d :: kn) (setB st d true)) (g1 (d :: kn) (setB st d false))
    | none => g1 kn st
theorem ask_same {kn : List Nat} {x : Option Nat} {d : Nat} {b : Bool} (h : askT kn st x = some (d, b)) : setB st d b = st := by
 unfold askT at h
 split at h
 ·rename_i d'
  split at h
  ·cases h
  ·split at h
   ·rename_i b' hb
    simp only [Option.some.injEq, Prod.mk.injEq] at h
    obtain ⟨rfl, rfl⟩ := h
    unfold slotB at hb
    split at hb
    ·rename_i b2 hs
     cases hb
     unfold setB
     have hlt : d' < st.s.length := by
      rcases Nat.lt_or_ge d' st.s.length with h2 | h2
      ·exact h2
      ·rw [List.getD_eq_getElem?_getD, List.getElem?_eq_none h2] at hs; cases hs
     have : st.s.set d' (.one (.c (.val (.bool b')))) = st.s := by
      rw [← hs, List.getD_eq_getElem?_getD, List.getElem?_eq_getElem hlt]; simp
     rw [this]
    ·cases hb
   ·cases h
 ·cases h
theorem tcut_sound {R : St → Prop} {kn : List Nat} {x : Option Nat} {d : Nat} {b : Bool} {f : List Nat → St → Tr} (h : askT kn st x = some (d, b))
  (ht : TrOk R (.cut b (f (d :: kn) (setB st d true)) (f (d :: kn) (setB st d false)))) : ∃ kn', TrOk R (f kn' st) := by
 have hs := ask_same h
 cases b with
 | true => rw [← hs]; exact ⟨_, by rw [hs]; have := ht.1 rfl; rwa [hs] at this⟩
 | false => rw [← hs]; exact ⟨_, by rw [hs]; have := ht.2 rfl; rwa [hs] at this⟩
theorem wantT_sound (P : Program) (h : Rels T w0 S0 F st a w) {ops : List Oper} {o : Oper} {b : Bool} (hp : wantT ops st o = some b) : Region.wanted o (yielded ops.toArray a.tmps) = b := by
  unfold wantT at hp
  split at hp
  · rename_i hg
    cases hp
    exact wants_sound (P := P) (say := ⟨[], [], []⟩) (i := 0) (obl := []) h (by unfold wants; rw [hg]) (fun _ h => absurd h (by simp))
  · rename_i k want hg
    split at hp
    · rename_i d hd
      split at hp
      · rename_i t hs
        cases hp
        exact wants_sound (P := P) (say := ⟨[(k, t)], [], []⟩) (i := 0) (obl := [(std P T).eqb t t]) h (by unfold wants; rw [hg]; dsimp only; rw [hd]; dsimp only; rw [hs]; simp [look]) (fun p hp => by
          rcases List.mem_singleton.1 hp with rfl
          exact (rfl : t = t))
      · rename_i hs
        cases hp
        exact wants_sound (P := P) (say := ⟨[], [], []⟩) (i := 0) (obl := []) h (by unfold wants; rw [hg]; dsimp only; rw [hd]; dsimp only; rw [hs]) (fun _ h => absurd h (by simp))
      · cases hp
    · cases hp
theorem stepT0_sound (hT : TOk P T) (h : Rels T w0 S0 F st a w) {bk : Book} {ops : List Oper} {o : Oper} {i : Nat} {obl : List Prop} (hp : stepT0 T (std P T) bk ops st o i = some (st', obl)) (ho : ∀ p ∈ obl, p)
    {K : Act → World → Prop} {Q : Exit → Act → World → Prop} (hK : ∀ z w', Rels T w0 S0 F st' (a.put o.dst z) w' → K (a.put o.dst z) w') : o.wp P a w K Q := by
  unfold stepT0 at hp
  split at hp
  · rename_i c x y hop
    split at hp
    · rename_i t hc
      simp only [Option.some.injEq, Prod.mk.injEq] at hp
      obtain ⟨rfl, rfl⟩ := hp
      refine step1_sound (say := ⟨[], [(i, t)], []⟩) (ops := ops) (i := i) (obl := [(std P T).eqb t t]) hT h ?_ (fun p hp => by
          rcases List.mem_singleton.1 hp with rfl
          exact (rfl : t = t)) hK
      unfold step1 pureOp
      rw [hop]
      dsimp only
      rw [hc]
      simp [pickOf, look]
    · cases hp
  · exact step1_sound hT h hp ho hK
theorem xtra_step (hT : TOk P T) (h : Rels T w0 S0 F st a w) {o : Oper} {v : V} {obl : List Prop} (hp : xtraOp T (std P T) st o = some (v, obl)) (ho : ∀ p ∈ obl, p)
  {K : Act → World → Prop} {Q : Exit → Act → World → Prop} (hK : ∀ z, Rels T w0 S0 F (put st o.dst v) (a.put o.dst z) w → K (a.put o.dst z) w) : o.wp P a w K Q := by
 obtain ⟨S, bx, ph, h1, hsp⟩ := h
 obtain ⟨z, r1, r2⟩ := xtraOp_sound hT h1 hp ho
 refine wp_value (r1 w) (hK z ⟨S, bx, ph, ?_, ?_⟩)
 ·cases hdst : o.dst with
  | none => exact h1
  | some d => exact h1.put d r2
 ·cases hdst : o.dst with
  | none => exact hsp
  | some d => show st.r.getD (st.s.set d v).length .none = .none; rw [List.length_set]; exact hsp
theorem stepT_sound (hT : TOk P T) (h : Rels T w0 S0 F st a w) {bk : Book} {ops : List Oper} {o : Oper} {i : Nat} {obl : List Prop} (hp : stepT T (std P T) bk ops st o i = some (st', obl)) (ho : ∀ p ∈ obl, p)
  {K : Act → World → Prop} {Q : Exit → Act → World → Prop} (hK : ∀ z w', Rels T w0 S0 F st' (a.put o.dst z) w' → K (a.put o.dst z) w') : o.wp P a w K Q := by
 unfold stepT at hp
 split at hp
 ·rename_i v obl' hx
  cases hp
  exact xtra_step hT h hx ho fun z hz => hK z w hz
 ·split at hp
  ·rename_i r hr
   cases hp
   exact rdOp_sound h hr ho fun z w' hz _ => hK z w' hz
  ·split at hp
   ·rename_i r hr
    cases hp
    exact mpOp_sound hT h hr ho hK
   ·exact stepT0_sound hT h hp ho hK
theorem nil_sound (hT : TOk P T) (h : Rel T w0 S0 F st a w S bx ph) {o : Oper} {n : Nat} {b : Bool} (hp : nilAsk T st o = some (n, b)) : ∃ c : Bool, (∀ w' : World, (execOp a.eval o).run P w' = .ok (.value (.bool c)) w') ∧ (c = b → n = 0) := by
  obtain ⟨dst, op, type, pos, after, guard⟩ := o
  have key : ∀ (op : BinOp) (t e : TypeId) (x y x' y' : Operand) (yt : TypeId) (aa : Option Addr) (m cap : Nat) (b : Bool), P.underlying t = some (.slice e) → a.eval x = .slice aa m cap → a.eval y = .slice none 0 0 → (aa.isSome = false → m = 0) → (op = .eql ∧ b = true ∨ op = .neq ∧ b = false) →
      ∃ c : Bool, (∀ w' : World, (execOp a.eval ⟨dst, .binOp op t x y yt, type, pos, after, guard⟩).run P w' = .ok (.value (.bool c)) w') ∧ (c = b → m = 0) := by
    intro op t e x y _ _ yt aa m cap b hu hx hy hm hop
    rcases hop with ⟨rfl, rfl⟩ | ⟨rfl, rfl⟩
    · refine ⟨aa.isNone, fun w' => ?_, fun hc => hm (by cases aa <;> simp_all)⟩
      have h1 := run_equal1 hu (.slice aa m cap) (.slice none 0 0) aa.isNone w' (by cases aa <;> rfl)
      simp [execOp, hx, hy, eqGuard, binOp, h1]
    · refine ⟨aa.isSome, fun w' => ?_, fun hc => hm hc⟩
      have h1 := run_equal1 hu (.slice aa m cap) (.slice none 0 0) aa.isNone w' (by cases aa <;> rfl)
      cases aa <;> simp [execOp, hx, hy, eqGuard, binOp, h1]
  unfold nilAsk at hp
  dsimp only at hp
  split at hp
  · rename_i op' t x y yt
    split at hp
    · rename_i e n' cs hd hy hx
      have hxr := ev_sound h x
      have hyr := ev_sound h y
      rw [hx] at hxr
      rw [hy] at hyr
      have hu := desc_of hT hd (by simp)
      have hxr' : CRep w S (a.eval x) (.sl n' cs) := hxr
      obtain ⟨aa, cap, hv⟩ := crep_sl hxr'
      rw [hv] at hxr'
      have hm : aa.isSome = false → n' = 0 := fun ha => by
        cases hxr' with
        | sl0 => rfl
        | sl => cases ha
      split at hp <;> first | (cases hp; done) | (cases hp; exact key _ t e x y x y yt aa _ cap _ hu hv (crep_nil hyr) hm (by simp))
    · rename_i e t' o' hd hy hx
      have hxr := ev_sound h x
      have hyr := ev_sound h y
      rw [hx] at hxr
      rw [hy] at hyr
      have hu := desc_of hT hd (by simp)
      obtain ⟨e1, n1, c1, hc1, hv⟩ := hxr
      split at hp <;> first | (cases hp; done) | (
        rename_i hown
        cases hp
        have hc := ownAt_eq hown
        rcases own_form (h.heap.cell hc) with ⟨q1, q2, _⟩ | ⟨g, cap, q1, _⟩
        · exact key _ t e x y x y yt none _ 0 _ hu (by rw [hv, q1, q2]) (crep_nil hyr) (fun _ => q2) (by simp)
        · exact key _ t e x y x y yt (some ⟨g, 0, none⟩) _ cap _ hu (by rw [hv, q1]) (crep_nil hyr) (fun hh => by cases hh) (by simp))
    · cases hp
  · cases hp
theorem runT_sound (hT : TOk P T) {bk : Book} {ops : List Oper} {Q : Exit → Act → World → Prop} {R : St → Prop} :
    ∀ (rest : List Oper) (i : Nat) (kn : List Nat) (st : St) (a : Act) (w : World), Rels T w0 S0 F st a w → (∀ k, rest[k]? = ops[i + k]?) → TrOk R (runT T (std P T) bk ops kn st rest i) →
      (∀ st' a' w', R st' → Rels T w0 S0 F st' a' w' → Q .normal a' w') → wpOps P ops.toArray Q ((List.range rest.length).map (i + ·)) a w := by
  intro rest
  induction rest with
  | nil =>
    intro i kn st a w h _ hr hQ
    exact hQ st a w hr h
  | cons o rest ih =>
    intro i kn st a w h hix hr hQ
    have hoi : ops[i]? = some o := by have := hix 0; simpa using this.symm
    have e1 : ((fun x => i + x) ∘ Nat.succ) = fun x => (i + 1) + x := by funext x; simp; omega
    have hix' : ∀ k, rest[k]? = ops[i + 1 + k]? := fun k => by
      have := hix (k + 1)
      rw [show i + 1 + k = i + (k + 1) by omega, ← this]; rfl
    rw [List.length_cons, List.range_succ_eq_map, List.map_cons, List.map_map, Nat.add_zero, wpOps_cons, e1]
    have hoi' : ops.toArray[i]? = some o := by simpa using hoi
    unfold wpOp
    rw [hoi']
    dsimp only
    -- what follows once no test is open
    have k2 : ∀ kn, TrOk R (nilGo (nilAsk T st o) (match stepT T (std P T) bk ops st o i with
        | some (st1, obl) => Tr.with obl (runT T (std P T) bk ops (learn kn st o) st1 rest (i + 1))
        | none => .bad) (fun b => runT T (std P T) bk ops (learnIf kn (o.dst.getD 0) o.dst.isSome) (putB st o.dst b) rest (i + 1))) → o.wp P a w (fun a' w' => wpOps P ops.toArray Q ((List.range rest.length).map (i + 1 + ·)) a' w') Q := by
      intro kn h2
      cases hq : nilAsk T st o with
      | some p =>
        obtain ⟨n, b⟩ := p
        rw [hq] at h2
        obtain ⟨ha, hb⟩ := h2
        obtain ⟨S, bx, ph, hrel, hsp⟩ := h
        obtain ⟨c, hc1, hc2⟩ := nil_sound hT hrel hq
        have hput : Rels T w0 S0 F (putB st o.dst c) (a.put o.dst (.bool c)) w := by
          refine ⟨S, bx, ph, ?_, ?_⟩
          · cases hdst : o.dst with
            | none => exact hrel
            | some d => exact hrel.put d (CRep.val rfl)
          · cases hdst : o.dst with
            | none => exact hsp
            | some d => show st.r.getD (st.s.set d _).length .none = .none; rw [List.length_set]; exact hsp
        refine wp_value (hc1 w) (ih (i + 1) (learnIf kn (o.dst.getD 0) o.dst.isSome) (putB st o.dst c) _ w hput hix' ?_ hQ)
        by_cases e : c = b
        · rw [e]; exact ha (hc2 e)
        · have : c = !b := by cases c <;> cases b <;> simp_all
          rw [this]; exact hb
      | none =>
      rw [hq] at h2
      simp only [nilGo] at h2
      split at h2
      · rename_i st1 obl h1
        obtain ⟨h3, h4⟩ := tr_with h2
        exact stepT_sound hT h h1 h3 fun z w' hz => ih (i + 1) _ st1 _ w' hz hix' h4 hQ
      · exact h2.elim
    unfold runT at hr
    dsimp only at hr
    have k1 : ∃ kn, TrOk R (match wantT ops st o with
      | some true =>
        match askT kn st (pickD o) with
        | some (d, b) => .cut b ((fun kn st => nilGo (nilAsk T st o) (match stepT T (std P T) bk ops st o i with
            | some (st1, obl) => Tr.with obl (runT T (std P T) bk ops (learn kn st o) st1 rest (i + 1))
            | none => Tr.bad) (fun b => runT T (std P T) bk ops (learnIf kn (o.dst.getD 0) o.dst.isSome) (putB st o.dst b) rest (i + 1))) (d :: kn) (setB st d true)) ((fun kn st => nilGo (nilAsk T st o) (match stepT T (std P T) bk ops st o i with
            | some (st1, obl) => Tr.with obl (runT T (std P T) bk ops (learn kn st o) st1 rest (i + 1))
            | none => Tr.bad) (fun b => runT T (std P T) bk ops (learnIf kn (o.dst.getD 0) o.dst.isSome) (putB st o.dst b) rest (i + 1))) (d :: kn) (setB st d false))
        | none => (fun kn st => nilGo (nilAsk T st o) (match stepT T (std P T) bk ops st o i with
            | some (st1, obl) => Tr.with obl (runT T (std P T) bk ops (learn kn st o) st1 rest (i + 1))
            | none => Tr.bad) (fun b => runT T (std P T) bk ops (learnIf kn (o.dst.getD 0) o.dst.isSome) (putB st o.dst b) rest (i + 1))) kn st
      | some false => runT T (std P T) bk ops kn (put st o.dst .nop) rest (i + 1)
      | none => .bad) := by
      split at hr
      · rename_i d b hask
        obtain ⟨kn', h2⟩ := tcut_sound (f := fun kn st => match wantT ops st o with
          | some true =>
            match askT kn st (pickD o) with
            | some (d, b) => .cut b ((fun kn st => nilGo (nilAsk T st o) (match stepT T (std P T) bk ops st o i with
                | some (st1, obl) => Tr.with obl (runT T (std P T) bk ops (learn kn st o) st1 rest (i + 1))
                | none => Tr.bad) (fun b => runT T (std P T) bk ops (learnIf kn (o.dst.getD 0) o.dst.isSome) (putB st o.dst b) rest (i + 1))) (d :: kn) (setB st d true)) ((fun kn st => nilGo (nilAsk T st o) (match stepT T (std P T) bk ops st o i with
                | some (st1, obl) => Tr.with obl (runT T (std P T) bk ops (learn kn st o) st1 rest (i + 1))
                | none => Tr.bad) (fun b => runT T (std P T) bk ops (learnIf kn (o.dst.getD 0) o.dst.isSome) (putB st o.dst b) rest (i + 1))) (d :: kn) (setB st d false))
            | none => (fun kn st => nilGo (nilAsk T st o) (match stepT T (std P T) bk ops st o i with
                | some (st1, obl) => Tr.with obl (runT T (std P T) bk ops (learn kn st o) st1 rest (i + 1))
                | none => Tr.bad) (fun b => runT T (std P T) bk ops (learnIf kn (o.dst.getD 0) o.dst.isSome) (putB st o.dst b) rest (i + 1))) kn st
          | some false => runT T (std P T) bk ops kn (put st o.dst .nop) rest (i + 1)
          | none => .bad) hask hr
        exact ⟨kn', h2⟩
      · exact ⟨kn, hr⟩
    obtain ⟨kn1, h1⟩ := k1
    split at h1
    · rename_i hw
      rw [if_pos (wantT_sound P h hw)]
      refine .inl ?_
      split at h1
      · rename_i d b hask
        obtain ⟨kn', h2⟩ := tcut_sound (f := fun kn st => nilGo (nilAsk T st o) (match stepT T (std P T) bk ops st o i with
            | some (st1, obl) => Tr.with obl (runT T (std P T) bk ops (learn kn st o) st1 rest (i + 1))
            | none => Tr.bad) (fun b => runT T (std P T) bk ops (learnIf kn (o.dst.getD 0) o.dst.isSome) (putB st o.dst b) rest (i + 1))) hask h1
        exact k2 kn' h2
      · exact k2 kn1 h1
    · rename_i hw
      rw [if_neg (by rw [wantT_sound P h hw]; simp)]
      refine ih (i + 1) kn1 _ _ w ?_ hix' h1 hQ
      obtain ⟨S, bx, ph, h3, hsp⟩ := h
      refine ⟨S, bx, ph, nop_put h3 _, ?_⟩
      cases hdst : o.dst with
      | none => exact hsp
      | some d => show st.r.getD (st.s.set d .nop).length .none = .none; rw [List.length_set]; exact hsp
    · exact h1.elim
theorem aw_tr1 {j : J} (hj : j = std P T) (hT : TOk P T) (bk : Book) {id : Nat} {ops : Array Oper} {t : Tr} (hr : runT T j bk ops.toList [] st ops.toList 0 = t) (h : TrOk (Q .normal) t) : Aw P T (.region id ops false) Q st := by
 rw [hj] at hr
 intro w0 S0 F a w hrel
 refine wp_region ?_
 have := runT_sound (Q := fun e a' w' => ∃ st', Q e st' ∧ Rels T w0 S0 F st' a' w') (R := Q .normal) hT ops.toList 0 [] st a w hrel (fun k => by rw [Nat.zero_add]) (by rw [hr]; exact h) (fun st' a' w' hR h' => ⟨st', hR, h'⟩)
 simpa using this
theorem aw_tr {j : J} (hj : j = std P T) (hT : TOk P T) (bk : Book) {id : Nat} {ops : Array Oper} {y : Code} {t : Tr} (hr : runT T j bk ops.toList [] st ops.toList 0 = t) (h : TrOk (Aw P T y Q) t) : Aw P T (.seq (.region id ops false) y) Q st := by
 refine aw_seq fun K hK => aw_tr1 hj hT bk hr ?_
 have : ∀ t, TrOk (Aw P T y Q) t → TrOk (Th K Q .normal) t := by
  intro t
  induction t with
  | done st => exact fun h => hK st h
  | ob l t ih => exact fun h => ⟨h.1, ih h.2⟩
  | cut b x y ih1 ih2 => exact fun h => ⟨fun hb => ih1 (h.1 hb), fun hb => ih2 (h.2 hb)⟩
  | alt n x y ih1 ih2 => exact fun h => ⟨fun hb => ih1 (h.1 hb), ih2 h.2⟩
  | bad => exact fun h => h
 exact this t h
theorem th_n {K : St → Prop} (h : K st) : Th K Q .normal st := h
theorem th_r {K : St → Prop} (h : Q .ret st) : Th K Q .ret st := h
theorem th_x {K : St → Prop} {id : Nat} (h : Q (.exit id) st) : Th K Q (.exit id) st := h
theorem blk_n {id : Nat} (h : Q .normal st) : Blk id Q .normal st := h
theorem blk_r {id : Nat} (h : Q .ret st) : Blk id Q .ret st := h
theorem blk_x {id : Nat} (h : Q .normal st) : Blk id Q (.exit id) st := by simp only [Blk, if_pos]; exact h
theorem blk_y {id id' : Nat} (hne : (id' == id) = false) (h : Q (.exit id') st) : Blk id Q (.exit id') st := by
 have : ¬ id' = id := by simpa using hne
 simp only [Blk, if_neg this]; exact h
theorem aw_condj {c : Operand} {x y : Code} {b : Bool} (hc : ev st.s c = .one (.c (.val (.bool b)))) (ht : b = true → Aw P T x Q st) (hf : b = false → Aw P T y Q st) : Aw P T (.cond c x y) Q st := aw_cond hc ht hf
theorem ret_okj {j : J} (hj : j = std P T) {fn : Func} {ret : RV} {vs : List V} {row : List RC} {obl : List Prop} (h : retOf T j fn.results.toList st = some (vs, row, obl)) (ho : ∀ p ∈ obl, p) (he : ret = ⟨decide (fn.results.size ≠ 1), splitRow vs row⟩) {N : Nat} : RetOk P T fn st ret [] N := by
 rw [hj] at h
 exact ⟨⟨vs, row, obl, row, h, ho, LeRow.refl _, he⟩, .inl rfl⟩
end Go.Proofs.Ytcpcghnpoekhpaa.A
/- The ghost machine, part 29: loops by a state with parameters; sums that do not wrap. -/
set_option linter.unusedSimpArgs false
set_option linter.unusedVariables false
set_option maxRecDepth 100000
set_option maxHeartbeats 4000000
namespace Go.Proofs.Ytcpcghnpoekhpaa.A
open Go Go.RowKit
variable {P : Program} {T : TT} {st : St} {Q : Exit → St → Prop}
def slotsOf (n : Nat) (l : List (Nat × V)) : List V := (List.range n).map fun i => (look l i).getD .undef
def stOf (n : Nat) (l : List (Nat × V)) (rs : List (Nat × Root)) : St := ⟨slotsOf n l, (List.range (n + 1)).map fun i => (look rs i).getD .none⟩
def stOfR (n : Nat) (l : List (Nat × V)) (rs : List (Nat × Root)) (outs : List Root) : St := ⟨slotsOf n l, (List.range (n + 1)).map (fun i => (look rs i).getD .none) ++ outs⟩
theorem aw_lpj {c : Code} {j : J} (hj : j = std P T) (ks : List (Nat × KS)) (bs : List Nat) {α : Type} (F : α → St) (μ : α → Nat) (I : α → Prop) (a0 : α) (h0 : canon T j ks bs st = some (F a0)) (hI : I a0)
    (round : ∀ a, I a → Aw P T c (Th (fun st' => ∃ a', canon T j ks bs st' = some (F a') ∧ I a' ∧ μ a' < μ a) Q) (F a)) : Aw P T (.loop c) Q st := by
  rw [hj] at h0
  refine aw_loop (fun m st => ∃ a, st = F a ∧ I a ∧ μ a = m) (canon_le h0) ⟨a0, rfl, hI, rfl⟩ fun m st ⟨a, h1, h2, h3⟩ => ?_
  subst h1
  refine (round a h2).mono fun e st' hq => ?_
  cases e <;> first | exact hq | (
    obtain ⟨a', h4, h5, h6⟩ := hq
    rw [hj] at h4
    exact ⟨_, _, canon_le h4, h3 ▸ h6, a', rfl, h5, rfl⟩)
theorem forgetj {c : Code} {j : J} (hj : j = std P T) (ks : List (Nat × KS)) (bs : List Nat) {st1 : St} (h : canon T j ks bs st = some st1) (k : Aw P T c Q st1) : Aw P T c Q st := by
 rw [hj] at h
 exact aw_le (canon_le h) k
theorem wrap64 {n : Int} (h1 : -9223372036854775808 ≤ n) (h2 : n ≤ 9223372036854775807) : IntKind.wrap .i64 n = n := by
 simp [IntKind.wrap, IntKind.bits, IntKind.signed]
 omega
theorem add64 {a b : Int} (h1 : -9223372036854775808 ≤ a + b) (h2 : a + b ≤ 9223372036854775807) : arithI .add .i64 a b = a + b := wrap64 h1 h2
theorem sub64 {a b : Int} (h1 : -9223372036854775808 ≤ a - b) (h2 : a - b ≤ 9223372036854775807) : arithI .sub .i64 a b = a - b := wrap64 h1 h2
end Go.Proofs.Ytcpcghnpoekhpaa.A
/- The ghost machine, part 30: from a law's contract to what the row's frame asks. -/
set_option linter.unusedSimpArgs false
set_option linter.unusedVariables false
set_option maxRecDepth 100000
set_option maxHeartbeats 4000000
namespace Go.Proofs.Ytcpcghnpoekhpaa.A
open Go Go.RowKit
variable {P : Program} {T : TT}
theorem walk_of_pc {f : FuncId} {args : List Arg} {vs : List Value} {w : World} (h : PC P T f args (ret1 (.st (vB true))) []) (hr : ∀ x ∈ args, x.asRoot = .none) (S : Nat → Prop) (hlow : ∀ b, S b → b < w.heap.size)
  (hl : vs.length = args.length) (ha : ∀ i (h : i < args.length) (h2 : i < vs.length), ArgRep w S (fun _ => 0) 0 vs[i] args[i]) (hv : reals args = args.length := by rfl) (hg : Gnd w S := by first | exact ⟨trivial, fun _ h => nomatch h⟩ | assumption) :
  Calls P f vs.toArray w fun e w' => e = .returned (.bool true) ∧ Below w.heap.size w w' := by
 have hno : ∀ t κ b, ¬ owns (args.map Arg.asRoot) (fun _ => 0) (fun _ _ => default) t κ b := fun t κ b hb => by exact (owns_none _ _ _ (nones_getD args hr t) _ _ hb).elim
 have hh : Heap T w S (args.map Arg.asRoot) (fun _ => 0) (fun _ _ => default) := ⟨fun t => by rw [nones_getD args hr t]; trivial, fun t κ t' κ' b h => absurd h (hno t κ b), fun t κ b h => absurd h (hno t κ b), ⟨hlow, hg⟩⟩
 refine (h w S (fun _ => 0) (fun _ _ => default) vs hh (hl.trans hv.symm) ha).mono ?_
 rintro e w' ⟨v, S', bx', ph', rfl, g⟩
 refine ⟨?_, g.chg.below (Nat.le_refl _) fun k _ hk => ?_⟩
 ·have h1 := g.heap.cell (t := 0) (o := 0) (rc := .st (vB true)) rfl
  have h2 : (ph' 0 0).v = .bool true := (crep_val h1).1
  have h3 : v = ph' 0 0 := by
   have := g.val
   unfold RetRep at this
   exact this.1.2
  rw [h3, h2]
 ·obtain ⟨t, κ, hb⟩ := hk
  exact absurd hb (hno t κ k)
end Go.Proofs.Ytcpcghnpoekhpaa.A
/- The ghost machine, part 31: regions that draw their order. -/
set_option linter.unusedSimpArgs false
set_option linter.unusedVariables false
set_option maxRecDepth 100000
set_option maxHeartbeats 4000000
namespace Go.Proofs.Ytcpcghnpoekhpaa.A
open Go Go.RowKit
variable {P : Program} {T : TT} {w w' w0 : World} {S S0 : Nat → Prop} {F : Fr} {bx : Nat → Nat} {ph : Nat → Nat → Pv} {a : Act} {st st' : St} {Q : Exit → St → Prop}
abbrev Cert := List (Nat × Bool)
def certOk (ops : Array Oper) : Array Bool → Cert → Bool
 | listed, [] => (Region.ready .any ops listed).isEmpty
 | listed, (i, true) :: rest => Region.ready .any ops listed == [i] && certOk ops (listed.setIfInBounds i true) rest
 | listed, (i, false) :: rest => Region.free .any ops listed i && (Region.ready .any ops listed).contains i && certOk ops (listed.setIfInBounds i true) rest
def certAll (ops : Array Oper) (c : Cert) : Bool := Region.noSelect ops && c.length == ops.size && certOk ops (Array.replicate ops.size false) c
def pureT0 (T : TT) (j : J) (st : St) (o : Oper) (free : Bool) : Option (V × List Prop) :=
 if reads st o && !free then none else
 match o.op with
 | .pick c a b =>
  match ev st.s c with
  | .one (.c (.val (.bool t))) => some (if t then ev st.s a else ev st.s b, [])
  | _ => none
 | _ => pureOp T j st none o
def pureT (T : TT) (j : J) (st : St) (o : Oper) (free : Bool) : Option (V × List Prop) :=
 match xtraOp T j st o with
 | some r => some r
 | none => pureT0 T j st o free
def runD (T : TT) (j : J) (bk : Book) (ops : List Oper) (A : Bool) : Cert → Bool → List Nat → St → Tr
 | [], _, _, st => .done st
 | (i, sole) :: rest, fresh, kn, st =>
  match ops[i]? with
  | none => .bad
  | some o =>
   let g2 := fun kn st =>
    match pureT T j st o (A && fresh) with
    | some (v, obl) => Tr.with obl (runD T j bk ops A rest fresh (learn kn st o) (put st o.dst v))
    | none =>
     if sole && (!A || !wrB T j bk st o) then
      match stepT T j bk ops st o i with
      | some (st1, obl) => Tr.with obl (runD T j bk ops A rest true (learn kn st o) st1)
      | none => .bad
     else .bad
   let g1 := fun kn st =>
    match wantT ops st o with
    | some true =>
     match askT kn st (pickD o) with
     | some (d, b) => .cut b (g2 (d :: kn) (setB st d true)) (g2 (d :: kn) (setB st d false))
     | none => g2 kn st
    | some false => runD T j bk ops A rest fresh kn (put st o.dst .nop)
    | none => .bad
   match askT kn st (guardD ops o) with
   | some (d, b) => .cut b (g1 (d :: kn) (setB st d true)) (g1 (d :: kn) (setB st d false))
   | none => g1 kn st
theorem old_size (h : Old w w') : w.heap.size ≤ w'.heap.size := by
 rcases Nat.eq_zero_or_pos w.heap.size with h0 | h0
 ·omega
 ·have h1 := h (w.heap.size - 1) (by omega)
  rw [Array.getElem?_eq_getElem (by omega : w.heap.size - 1 < w.heap.size)] at h1
  obtain ⟨h2, _⟩ := Array.getElem?_eq_some_iff.1 h1
  omega
theorem old_trans {w1 w2 w3 : World} (h : Old w1 w2) (k : Old w2 w3) : Old w1 w3 := fun b hb => (k b (Nat.lt_of_lt_of_le hb (old_size h))).trans (h b hb)
theorem pureT0_sound (hT : TOk P T) (h : Rel T w0 S0 F st a w S bx ph) {o : Oper} {free : Bool} {V : V} {obl : List Prop} (hp : pureT0 T (std P T) st o free = some (V, obl)) (ho : ∀ p ∈ obl, p) :
    ∃ z, (∀ w1 : World, (free = true → Keep S st.r bx ph w w1) → (execOp a.eval o).run P w1 = .ok (.value z) w1) ∧ VRep T w S st.r bx ph z V := by
  unfold pureT0 at hp
  split at hp
  · cases hp
  · rename_i hc
    have key : ∀ {gs obl'}, pureOp T (std P T) st gs o = some (V, obl') → (∀ p ∈ obl', p) → ∃ z, (∀ w1 : World, (free = true → Keep S st.r bx ph w w1) → (execOp a.eval o).run P w1 = .ok (.value z) w1) ∧ VRep T w S st.r bx ph z V := by
      intro gs obl' h1 h2
      obtain ⟨z, r1, r2⟩ := pureOp_sound hT h h1 h2
      refine ⟨z, fun w1 hk => r1 w1 ?_, r2⟩
      cases hr : reads st o with
      | false => exact .inl rfl
      | true =>
        refine .inr (hk ?_)
        rw [hr] at hc
        simpa using hc
    split at hp
    · rename_i c x y hop
      split at hp
      · rename_i t hcv
        simp only [Option.some.injEq, Prod.mk.injEq] at hp
        obtain ⟨rfl, rfl⟩ := hp
        refine key (gs := some t) (obl' := [(std P T).eqb t t]) ?_ (fun p hp => by
          rcases List.mem_singleton.1 hp with rfl
          exact (rfl : t = t))
        unfold pureOp
        rw [hop]
        dsimp only
        rw [hcv]
      · cases hp
    · exact key hp ho
theorem pureT_sound (hT : TOk P T) (h : Rel T w0 S0 F st a w S bx ph) {o : Oper} {free : Bool} {V : V} {obl : List Prop} (hp : pureT T (std P T) st o free = some (V, obl)) (ho : ∀ p ∈ obl, p) :
  ∃ z, (∀ w1 : World, (free = true → Keep S st.r bx ph w w1) → (execOp a.eval o).run P w1 = .ok (.value z) w1) ∧ VRep T w S st.r bx ph z V := by
 unfold pureT at hp
 split at hp
 ·rename_i r hx
  cases hp
  obtain ⟨z, r1, r2⟩ := xtraOp_sound hT h hx ho
  exact ⟨z, fun w1 _ => r1 w1, r2⟩
 ·exact pureT0_sound hT h hp ho
theorem step1_sound2 (hT : TOk P T) (h : Rels T w0 S0 F st a w) {say : Say} {ops : List Oper} {o : Oper} {i : Nat} {obl : List Prop} (hp : step1 T (std P T) say ops st o i = some (st', obl)) (ho : ∀ p ∈ obl, p)
  {K : Act → World → Prop} {Q : Exit → Act → World → Prop} (hK : ∀ z w', Rels T w0 S0 F st' (a.put o.dst z) w' → (writes st o = false → Old w w') → K (a.put o.dst z) w') : o.wp P a w K Q := by
 obtain ⟨S, bx, ph, h1, hsp⟩ := h
 unfold step1 at hp
 split at hp
 ·rename_i v obl' hpu
  cases hp
  obtain ⟨z, r1, r2⟩ := pureOp_sound hT h1 hpu ho
  refine wp_value (r1 w (.inr (Keep.refl _ _ _ _ _))) (hK z w ⟨S, bx, ph, ?_, ?_⟩ fun _ _ _ => rfl)
  ·cases hdst : o.dst with
   | none => exact h1
   | some d => exact h1.put d r2
  ·cases hdst : o.dst with
   | none => exact hsp
   | some d => show st.r.getD (st.s.set d v).length .none = .none; rw [List.length_set]; exact hsp
 ·split at hp
  ·rename_i vf st1 obl' hru
   split at hp
   ·rename_i hd
    cases hp
    refine runOp_sound hT h1 hsp hru ho (fun k hk => ?_) fun z w' hz hw => hK z w' hz hw
    rw [hk] at hd; simpa [dstOk] using hd
   ·cases hp
  ·cases hp
theorem stepT0_sound2 (hT : TOk P T) (h : Rels T w0 S0 F st a w) {bk : Book} {ops : List Oper} {o : Oper} {i : Nat} {obl : List Prop} (hp : stepT0 T (std P T) bk ops st o i = some (st', obl)) (ho : ∀ p ∈ obl, p)
    {K : Act → World → Prop} {Q : Exit → Act → World → Prop} (hK : ∀ z w', Rels T w0 S0 F st' (a.put o.dst z) w' → (writes st o = false → Old w w') → K (a.put o.dst z) w') : o.wp P a w K Q := by
  unfold stepT0 at hp
  split at hp
  · rename_i c x y hop
    split at hp
    · rename_i t hc
      simp only [Option.some.injEq, Prod.mk.injEq] at hp
      obtain ⟨rfl, rfl⟩ := hp
      refine step1_sound2 (say := ⟨[], [(i, t)], []⟩) (ops := ops) (i := i) (obl := [(std P T).eqb t t]) hT h ?_ (fun p hp => by
          rcases List.mem_singleton.1 hp with rfl
          exact (rfl : t = t)) hK
      unfold step1 pureOp
      rw [hop]
      dsimp only
      rw [hc]
      simp [pickOf, look]
    · cases hp
  · exact step1_sound2 hT h hp ho hK
theorem stepT_sound2 (hT : TOk P T) (h : Rels T w0 S0 F st a w) {bk : Book} {ops : List Oper} {o : Oper} {i : Nat} {obl : List Prop} (hp : stepT T (std P T) bk ops st o i = some (st', obl)) (ho : ∀ p ∈ obl, p)
  {K : Act → World → Prop} {Q : Exit → Act → World → Prop} (hK : ∀ z w', Rels T w0 S0 F st' (a.put o.dst z) w' → (wrB T (std P T) bk st o = false → Old w w') → K (a.put o.dst z) w') : o.wp P a w K Q := by
 unfold stepT at hp
 split at hp
 ·rename_i v obl' hx
  cases hp
  exact xtra_step hT h hx ho fun z hz => hK z w hz fun _ _ _ => rfl
 ·split at hp
  ·rename_i r hr
   cases hp
   exact rdOp_sound h hr ho fun z w' hz hold => hK z w' hz fun _ => hold
  ·rename_i hr
   split at hp
   ·rename_i r hm
    cases hp
    exact mpOp_sound hT h hm ho fun z w' hz => hK z w' hz fun hw => by simp [wrB, hm] at hw
   ·rename_i hm
    exact stepT0_sound2 hT h hp ho fun z w' hz hold => hK z w' hz fun hw => hold (by simpa [wrB, hr, hm] using hw)
theorem nop_rels (h : Rels T w0 S0 F st a w) (d : Option Nat) : Rels T w0 S0 F (put st d .nop) (a.put d undef) w := by
 obtain ⟨S, bx, ph, h1, hsp⟩ := h
 refine ⟨S, bx, ph, nop_put h1 _, ?_⟩
 cases d with
 | none => exact hsp
 | some d => show st.r.getD (st.s.set d .nop).length .none = .none; rw [List.length_set]; exact hsp
theorem wpAnyH_mono {ops : Array Oper} {Q : Exit → Act → World → Prop} {S1 S2 : World → Prop} (hS : ∀ w, S2 w → S1 w) : ∀ (fuel : Nat) (listed : Array Bool) (a : Act) (w : World), wpAnyH P .any ops Q S2 fuel listed a w → wpAnyH P .any ops Q S1 fuel listed a w
 | 0, _, _, _, h => h
 | fuel + 1, _, _, _, h => ⟨h.1, fun i hi => wpOp_mono (fun a' w' h' => ⟨hS _ h'.1, wpAnyH_mono hS fuel _ a' w' h'.2⟩) (h.2 i hi)⟩
theorem runD_sound (hT : TOk P T) {bk : Book} {ops : Array Oper} {A : Bool} {R : St → Prop} (hns : Region.noSelect ops = true) {Q : Exit → Act → World → Prop} (hQ : ∀ c a w, ¬ Q (.panic c) a w)
    (hE : ∀ st' a' w', R st' → Rels T w0 S0 F st' a' w' → Q .normal a' w') :
    ∀ (cert : Cert) (wr : World) (listed : Array Bool) (fresh : Bool) (kn : List Nat) (st : St) (a : Act) (w : World), certOk ops listed cert = true → Rels T w0 S0 F st a w → (fresh = true → w = wr) → (A = true → Old wr w) →
      TrOk R (runD T (std P T) bk ops.toList A cert fresh kn st) → wpAnyH P .any ops Q (fun w' => A = true → Old wr w') cert.length listed a w := by
  intro cert
  induction cert with
  | nil =>
    intro wr listed fresh kn st a w hc hrel _ _ hr
    refine wpAnyH_done ?_ (hE st a w hr hrel) 0
    simpa [certOk] using hc
  | cons p rest ih =>
    obtain ⟨i, sole⟩ := p
    intro wr listed fresh kn st a w hc hrel hf hA hr
    unfold runD at hr
    split at hr
    · exact hr.elim
    · rename_i o hoi
      have hoi' : ops[i]? = some o := by rw [← hoi]; simp
      dsimp only at hr
      -- no test is open any more
      have k1 : ∃ kn, TrOk R (match wantT ops.toList st o with
        | some true =>
          match askT kn st (pickD o) with
          | some (d, b) => .cut b ((fun kn st => match pureT T (std P T) st o (A && fresh) with
              | some (v, obl) => Tr.with obl (runD T (std P T) bk ops.toList A rest fresh (learn kn st o) (put st o.dst v))
              | none => if sole && (!A || !wrB T (std P T) bk st o) then
                  match stepT T (std P T) bk ops.toList st o i with
                  | some (st1, obl) => Tr.with obl (runD T (std P T) bk ops.toList A rest true (learn kn st o) st1)
                  | none => Tr.bad
                else Tr.bad) (d :: kn) (setB st d true)) ((fun kn st => match pureT T (std P T) st o (A && fresh) with
              | some (v, obl) => Tr.with obl (runD T (std P T) bk ops.toList A rest fresh (learn kn st o) (put st o.dst v))
              | none => if sole && (!A || !wrB T (std P T) bk st o) then
                  match stepT T (std P T) bk ops.toList st o i with
                  | some (st1, obl) => Tr.with obl (runD T (std P T) bk ops.toList A rest true (learn kn st o) st1)
                  | none => Tr.bad
                else Tr.bad) (d :: kn) (setB st d false))
          | none => (fun kn st => match pureT T (std P T) st o (A && fresh) with
              | some (v, obl) => Tr.with obl (runD T (std P T) bk ops.toList A rest fresh (learn kn st o) (put st o.dst v))
              | none => if sole && (!A || !wrB T (std P T) bk st o) then
                  match stepT T (std P T) bk ops.toList st o i with
                  | some (st1, obl) => Tr.with obl (runD T (std P T) bk ops.toList A rest true (learn kn st o) st1)
                  | none => Tr.bad
                else Tr.bad) kn st
        | some false => runD T (std P T) bk ops.toList A rest fresh kn (put st o.dst .nop)
        | none => .bad) := by
        split at hr
        · rename_i d b hask
          exact tcut_sound (f := fun kn st => match wantT ops.toList st o with
            | some true =>
              match askT kn st (pickD o) with
              | some (d, b) => .cut b ((fun kn st => match pureT T (std P T) st o (A && fresh) with
                  | some (v, obl) => Tr.with obl (runD T (std P T) bk ops.toList A rest fresh (learn kn st o) (put st o.dst v))
                  | none => if sole && (!A || !wrB T (std P T) bk st o) then
                      match stepT T (std P T) bk ops.toList st o i with
                      | some (st1, obl) => Tr.with obl (runD T (std P T) bk ops.toList A rest true (learn kn st o) st1)
                      | none => Tr.bad
                    else Tr.bad) (d :: kn) (setB st d true)) ((fun kn st => match pureT T (std P T) st o (A && fresh) with
                  | some (v, obl) => Tr.with obl (runD T (std P T) bk ops.toList A rest fresh (learn kn st o) (put st o.dst v))
                  | none => if sole && (!A || !wrB T (std P T) bk st o) then
                      match stepT T (std P T) bk ops.toList st o i with
                      | some (st1, obl) => Tr.with obl (runD T (std P T) bk ops.toList A rest true (learn kn st o) st1)
                      | none => Tr.bad
                    else Tr.bad) (d :: kn) (setB st d false))
              | none => (fun kn st => match pureT T (std P T) st o (A && fresh) with
                  | some (v, obl) => Tr.with obl (runD T (std P T) bk ops.toList A rest fresh (learn kn st o) (put st o.dst v))
                  | none => if sole && (!A || !wrB T (std P T) bk st o) then
                      match stepT T (std P T) bk ops.toList st o i with
                      | some (st1, obl) => Tr.with obl (runD T (std P T) bk ops.toList A rest true (learn kn st o) st1)
                      | none => Tr.bad
                    else Tr.bad) kn st
            | some false => runD T (std P T) bk ops.toList A rest fresh kn (put st o.dst .nop)
            | none => .bad) hask hr
        · exact ⟨kn, hr⟩
      -- an operation that gives a value, or is unwanted: first, or alone
      have take : ∀ (v : Value) (st2 : St) (kn2 : List Nat), YieldsIf P ops (fun w' => A = true → Old wr w') o v a → Rels T w0 S0 F st2 (a.put o.dst v) w → TrOk R (runD T (std P T) bk ops.toList A rest fresh kn2 st2) →
          wpAnyH P .any ops Q (fun w' => A = true → Old wr w') (rest.length + 1) listed a w := by
        intro v st2 kn2 hy hrel2 hr2
        have hrest : certOk ops (listed.setIfInBounds i true) rest = true := by
          cases sole <;> simp only [certOk, Bool.and_eq_true] at hc <;> exact hc.2
        have h2 := ih wr _ fresh kn2 st2 (a.put o.dst v) w hrest hrel2 hf hA hr2
        cases sole with
        | true =>
          simp only [certOk, Bool.and_eq_true, beq_iff_eq] at hc
          refine wpAnyH_all hc.1 (by simp) fun k hk => ?_
          rcases List.mem_singleton.1 hk with rfl
          exact hy.wpOp hoi' hA ⟨hA, h2⟩
        | false =>
          simp only [certOk, Bool.and_eq_true] at hc
          exact wpAnyH_take hoi' hns hc.1.1 hc.1.2 (fun c a w h => absurd h (hQ c _ w)) hy hA h2
      obtain ⟨kn1, h1⟩ := k1
      split at h1
      · rename_i hw
        have hwt := wantT_sound P hrel hw
        have k2 : ∃ kn, TrOk R (match pureT T (std P T) st o (A && fresh) with
              | some (v, obl) => Tr.with obl (runD T (std P T) bk ops.toList A rest fresh (learn kn st o) (put st o.dst v))
              | none => if sole && (!A || !wrB T (std P T) bk st o) then
                  match stepT T (std P T) bk ops.toList st o i with
                  | some (st1, obl) => Tr.with obl (runD T (std P T) bk ops.toList A rest true (learn kn st o) st1)
                  | none => Tr.bad
                else Tr.bad) := by
          split at h1
          · rename_i d b hask
            exact tcut_sound (f := fun kn st => match pureT T (std P T) st o (A && fresh) with
                  | some (v, obl) => Tr.with obl (runD T (std P T) bk ops.toList A rest fresh (learn kn st o) (put st o.dst v))
                  | none => if sole && (!A || !wrB T (std P T) bk st o) then
                      match stepT T (std P T) bk ops.toList st o i with
                      | some (st1, obl) => Tr.with obl (runD T (std P T) bk ops.toList A rest true (learn kn st o) st1)
                      | none => Tr.bad
                    else Tr.bad) hask h1
          · exact ⟨kn1, h1⟩
        obtain ⟨kn2, h2⟩ := k2
        split at h2
        · rename_i v obl hp
          obtain ⟨h3, h4⟩ := tr_with h2
          obtain ⟨S, bx, ph, hr0, hsp⟩ := hrel
          obtain ⟨z, r1, r2⟩ := pureT_sound hT hr0 hp h3
          refine take z _ _ (.inl ⟨hwt, fun w1 hS => r1 w1 fun hfr => ?_⟩) ⟨S, bx, ph, ?_, ?_⟩ h4
          · simp only [Bool.and_eq_true] at hfr
            have e1 := hf hfr.2
            have hold := hS hfr.1
            rw [← e1] at hold
            exact ⟨fun b hb => hold b (hr0.heap.low.1 b hb), fun t κ b hb => hold b (hr0.heap.free t κ b hb).2⟩
          · cases hdst : o.dst with
            | none => exact hr0
            | some d => exact hr0.put d r2
          · cases hdst : o.dst with
            | none => exact hsp
            | some d => show st.r.getD (st.s.set d v).length .none = .none; rw [List.length_set]; exact hsp
        · split at h2
          · rename_i hsole
            simp only [Bool.and_eq_true, Bool.or_eq_true, Bool.not_eq_true'] at hsole
            obtain ⟨rfl, hwr⟩ := hsole
            split at h2
            · rename_i st1 obl hst
              obtain ⟨h3, h4⟩ := tr_with h2
              simp only [certOk, Bool.and_eq_true, beq_iff_eq] at hc
              refine wpAnyH_all hc.1 (by simp) fun k hk => ?_
              rcases List.mem_singleton.1 hk with rfl
              unfold wpOp
              rw [hoi']
              dsimp only
              rw [if_pos hwt]
              refine .inl (stepT_sound2 hT hrel hst h3 fun z w' hz hw' => ?_)
              have hA' : A = true → Old wr w' := fun h => by
                rcases hwr with h5 | h5
                · rw [h] at h5; cases h5
                · exact old_trans (hA h) (hw' h5)
              exact ⟨hA', wpAnyH_mono (fun w2 h5 h6 => old_trans (hA' h6) (h5 h6)) _ _ _ _ (ih w' _ true _ st1 _ w' hc.2 hz (fun _ => rfl) (fun _ _ _ => rfl) h4)⟩
            · exact h2.elim
          · exact h2.elim
      · rename_i hw
        have hwt := wantT_sound P hrel hw
        exact take undef _ kn1 (.inr ⟨hwt, rfl⟩) (nop_rels hrel _) h1
      · exact h1.elim
theorem Rels.drew (h : Rels T w0 S0 F st a w) : Rels T w0 S0 F st a { w with drawn := w.drawn + 1 } := by
 obtain ⟨S, bx, ph, h1, hsp⟩ := h
 exact ⟨S, bx, ph, h1.world (w' := w.drew) (W := fun _ => False) (Chg.drew _ w) (fun _ _ hf => hf.elim), hsp⟩
theorem aw_dr1 {j : J} (hj : j = std P T) (hT : TOk P T) (hm : P.follows .mixedOrders = true) (bk : Book) (A : Bool) (cert : Cert) {id : Nat} {ops : Array Oper} {t : Tr} (hc : certAll ops cert = true)
  (hr : runD T j bk ops.toList A cert true [] st = t) (h : TrOk (Q .normal) t) : Aw P T (.region id ops true) Q st := by
 rw [hj] at hr
 simp only [certAll, Bool.and_eq_true, beq_iff_eq] at hc
 intro w0 S0 F a w hrel
 refine wp_mono (Q := fun e a' w' => e = .normal ∧ ∃ st', Q .normal st' ∧ Rels T w0 S0 F st' a' w') ?_ (fun e a' w' hh => by obtain ⟨rfl, hh⟩ := hh; exact hh)
 refine wp_region_held (S := fun w' => A = true → Old { w with drawn := w.drawn + 1 } w') hm ?_
 have h9 := runD_sound (Q := fun e a' w' => e = .normal ∧ ∃ st', Q .normal st' ∧ Rels T w0 S0 F st' a' w') (A := A) (bk := bk) (R := Q .normal) hT hc.1.1 (fun c a w h => by cases h.1) (fun st' a' w' hR h' => ⟨rfl, st', hR, h'⟩) cert { w with drawn := w.drawn + 1 } _ true [] st a _ hc.2 hrel.drew (fun _ => rfl) (fun _ _ _ => rfl) (by rw [hr]; exact h)
 rw [hc.1.2] at h9
 exact h9
theorem aw_dr {j : J} (hj : j = std P T) (hT : TOk P T) (hm : P.follows .mixedOrders = true) (bk : Book) (A : Bool) (cert : Cert) {id : Nat} {ops : Array Oper} {y : Code} {t : Tr} (hc : certAll ops cert = true)
  (hr : runD T j bk ops.toList A cert true [] st = t) (h : TrOk (Aw P T y Q) t) : Aw P T (.seq (.region id ops true) y) Q st := by
 refine aw_seq fun K hK => aw_dr1 hj hT hm bk A cert hc hr ?_
 have : ∀ t, TrOk (Aw P T y Q) t → TrOk (Th K Q .normal) t := by
  intro t
  induction t with
  | done st => exact fun h => hK st h
  | ob l t ih => exact fun h => ⟨h.1, ih h.2⟩
  | cut b x y ih1 ih2 => exact fun h => ⟨fun hb => ih1 (h.1 hb), fun hb => ih2 (h.2 hb)⟩
  | alt n x y ih1 ih2 => exact fun h => ⟨fun hb => ih1 (h.1 hb), ih2 h.2⟩
  | bad => exact fun h => h
 exact this t h
/-! ### a certificate, found by the machine -/
end Go.Proofs.Ytcpcghnpoekhpaa.A
/- The ghost machine, part 32: obligations by their heads. -/
set_option linter.unusedSimpArgs false
set_option linter.unusedVariables false
set_option maxRecDepth 100000
set_option maxHeartbeats 4000000
namespace Go.Proofs.Ytcpcghnpoekhpaa.A
open Go
variable {P : Program} {T : TT} {j : J}
theorem ob_le (hj : j = std P T) {a b : Nat} (h : a ≤ b) : j.le a b := by rw [hj]; exact h
theorem ob_lei (hj : j = std P T) {a b : Int} (h : a ≤ b) : j.lei a b := by rw [hj]; exact h
theorem ob_inb (hj : j = std P T) {i : Int} {n : Nat} (h : 0 ≤ i ∧ i < (n : Int)) : j.inb i n := by rw [hj]; exact h
theorem ob_pos (hj : j = std P T) {n : Nat} (h : 0 < n) : j.pos n := by rw [hj]; exact h
theorem ob_ne0 (hj : j = std P T) {n : Int} (h : n ≠ 0) : j.ne0 n := by rw [hj]; exact h
theorem ob_eqb (hj : j = std P T) {a b : Bool} (h : a = b) : j.eqb a b := by rw [hj]; exact h
theorem ob_pcn (hj : j = std P T) {f : FuncId} {as9 : List Arg} {row : List RC} (h : (std P T).pcn f as9 row) : j.pcn f as9 row := by rw [hj]; exact h
theorem ob_pc (hj : j = std P T) {f : FuncId} {as9 : List Arg} {r : RV} {u : List Root} (h : (std P T).pc f as9 r u) : j.pc f as9 r u := by rw [hj]; exact h
theorem ob_ok (hj : j = std P T) {k : K} {c : C} (h : okK k c) : j.ok k c := by rw [hj]; exact h
theorem ite0 {n m : Nat} [Decidable (n = 0)] : (if n = 0 then m else n + m) = n + m := by split <;> omega
theorem pl2 {a b : Nat} [Decidable (b = 0)] [Decidable (a = 0)] : (if b = 0 then a else if a = 0 then b else a + b) = a + b := by split <;> (try split) <;> omega
theorem pl3 {a b : Nat} [Decidable (b = 0)] : (if b = 0 then a else a + b) = a + b := by split <;> omega
theorem sb0 {n k : Nat} [Decidable (k = 0)] : (if k = 0 then n else n - k) = n - k := by split <;> omega
theorem pl0 {n : Nat} [Decidable (n = 0)] : (if n = 0 then 0 else n) = n := by split <;> omega
theorem cmpS_eq (a b : ByteArray) : cmpS .eql a b = decide (a = b) := by
 show (a.toList == b.toList) = _
 rw [Bool.eq_iff_iff, decide_eq_true_eq, beq_iff_eq, ByteArray.toList_eq, ByteArray.toList_eq]
 constructor
 ·intro h; exact ByteArray.ext (Array.toList_inj.1 h)
 ·intro h; rw [h]
theorem cmpS_neq (a b : ByteArray) : cmpS .neq a b = !decide (a = b) := by rw [← cmpS_eq]; rfl
end Go.Proofs.Ytcpcghnpoekhpaa.A
/- The ghost machine: ways that join again; a walk that is to stand still. -/
set_option linter.unusedSimpArgs false
set_option linter.unusedVariables false
set_option maxRecDepth 100000
set_option maxHeartbeats 4000000
namespace Go.Proofs.Ytcpcghnpoekhpaa.A
open Go Go.RowKit
variable {P : Program} {T : TT} {st : St} {Q : Exit → St → Prop}
structure Stop (p : Prop) : Prop where
 get : p
theorem stop_go {p : Prop} (h : p) : Stop p := ⟨h⟩
theorem aw_stop {x y : Code} {id : Nat} {ops : Array Oper} {b : Bool} (h : Stop (Aw P T (.seq x (.seq (.region id ops b) y)) Q st)) : Aw P T (.seq x (.seq (.region id ops b) y)) Q st := h.get
theorem aw_stop1 {x : Code} {id : Nat} {ops : Array Oper} {b : Bool} (h : Stop (Aw P T (.seq x (.region id ops b)) Q st)) : Aw P T (.seq x (.region id ops b)) Q st := h.get
theorem aw_stop2 {x y z : Code} {id : Nat} {ops : Array Oper} {b : Bool} (h : Stop (Aw P T (.seq x (.seq (.seq (.region id ops b) z) y)) Q st)) : Aw P T (.seq x (.seq (.seq (.region id ops b) z) y)) Q st := h.get
theorem aw_joinj {x y : Code} {j : J} (hj : j = std P T) (ks : List (Nat × KS)) (bs : List Nat) {α : Type} (F : α → St) (I : α → Prop)
    (hx : Aw P T x (Th (fun st' => ∃ a, canon T j ks bs st' = some (F a) ∧ I a ∧ True) Q) st) (hy : ∀ a, I a → Aw P T y Q (F a)) : Aw P T (.seq x y) Q st :=
  aw_seq fun K hK => hx.mono fun e st' hq => by
    cases e <;> first | exact hq | (
      obtain ⟨a, h4, h5, _⟩ := hq
      exact hK _ (forgetj hj ks bs h4 (hy a h5)))
end Go.Proofs.Ytcpcghnpoekhpaa.A
/- The ghost machine in a round of a range over a function: a code that has no defer statement runs there as9 anywhere. -/
set_option linter.unusedSimpArgs false
set_option linter.unusedVariables false
set_option maxRecDepth 100000
set_option maxHeartbeats 4000000
namespace Go.Proofs.Ytcpcghnpoekhpaa.A
open Go Go.RowKit
variable {P : Program} {T : TT} {st st' : St} {Q : Exit → St → Prop}
abbrev RF (l : Nat) : Fence := Fence.wide.inRound l
theorem callsR {l n : Nat} {f : FuncId} {args : Array Value} {w : World} {R : Ending → World → Prop} (h : Calls P f args w R) : CallsIn (RF l) n P f args w R := (callsIn_wide (n := n)).2 h
theorem operIn_of {l n : Nat} {o : Oper} {a : Act} {w : World} {next next' : Act → World → Prop} {Q : Exit → Act → World → Prop} (hd : ∀ c, o.op ≠ .defer c) (hQ : ¬ LetsOut Q) (hn : ∀ a w, next a w → next' a w)
  (h : o.wp P a w next Q ∨ (o.asks P a w ∧ LetsOut Q)) : o.wpIn (RF l) n P a w next' Q := by
 rcases h with h | ⟨_, h⟩
 ·refine ⟨fun f _ => trivial, ?_⟩
  rw [Oper.semAt_plain (RF l) _ _ hd]
  unfold Oper.wp at h
  generalize (execOp a.eval o).run P w = r at h
  cases r with
  | ok x w' =>
   cases x with
   | value v => exact hn _ _ h
   | skip => exact hn _ _ h
   | defer d => exact hn _ _ h
   | enter f args =>
    refine ⟨fun h => (by cases h), (callsR (l := l) h).mono fun e w'' he => ?_⟩
    cases e with
    | returned v => exact hn _ _ he
    | panicked ch => exact he
    | outgrown => exact he
   | row row args =>
    refine ⟨fun h => (by cases h), fun c cs _ => ?_⟩
    obtain ⟨v, w2, q, s⟩ := h c cs
    exact ⟨v, w2, hn _ _ q, stepsIn_wide.2 s⟩
   | _ => exact h.elim
  | halt s w' =>
   cases s with
   | panic v => exact h
   | _ => exact h.elim
 ·exact absurd h hQ
theorem opsIn_of {l n : Nat} {ops : Array Oper} {Q : Exit → Act → World → Prop} (hd : ∀ o ∈ ops.toList, ∀ c, o.op ≠ .defer c) (hQ : ¬ LetsOut Q) : ∀ (L : List Nat) (a : Act) (w : World), wpOps P ops Q L a w → wpOpsIn (RF l) n P ops Q L a w := by
 intro L
 induction L with
 | nil => exact fun a w h => h
 | cons i rest ih =>
  intro a w h
  unfold wpOps at h
  unfold wpOpsIn
  split at h
  ·rename_i ho; rw [ho]; exact ih a w h
  ·rename_i o ho
   rw [ho]
   dsimp only at h ⊢
   split at h
   ·rename_i hw
    rw [if_pos hw]
    exact operIn_of (hd o (List.mem_of_getElem? (by simpa using ho))) hQ ih h
   ·rename_i hw
    rw [if_neg hw]
    exact ⟨fun f _ => trivial, ih _ _ h⟩
def NoOut (Q : Exit → St → Prop) : Prop := ∀ st, ¬ Q .outgrown st
def AwI (l : Nat) (P : Program) (T : TT) (c : Code) (Q : Exit → St → Prop) (st : St) : Prop :=
 ∀ w0 S0 F a w, Rels T w0 S0 F st a w → c.wpIn (RF l) 0 P (fun e a' w' => ∃ st', Q e st' ∧ Rels T w0 S0 F st' a' w') a w
variable {l : Nat}
theorem ai_skip (h : Q .normal st) : AwI l P T .skip Q st := fun _ _ _ _ _ hr => wpIn_skip ⟨st, h, hr⟩
theorem ai_exit {id : Nat} (h : Q (.exit id) st) : AwI l P T (.exit id) Q st := fun _ _ _ _ _ hr => wpIn_exit ⟨st, h, hr⟩
theorem ai_seq {x y : Code} (h : ∀ K : St → Prop, (∀ st, AwI l P T y Q st → K st) → AwI l P T x (Th K Q) st) : AwI l P T (.seq x y) Q st := by
 intro w0 S0 F a w hr
 refine wpIn_seq (wpIn_mono (h (fun st => AwI l P T y Q st) (fun _ h => h) w0 S0 F a w hr) fun e a' w' ⟨st', q, r⟩ => ?_)
 cases e <;> first | exact q w0 S0 F a' w' r | exact ⟨st', q, r⟩
theorem ai_cond {c : Operand} {x y : Code} {b : Bool} (hc : ev st.s c = .one (.c (.val (.bool b)))) (ht : b = true → AwI l P T x Q st) (hf : b = false → AwI l P T y Q st) : AwI l P T (.cond c x y) Q st := by
 intro w0 S0 F a w hr
 have hr0 := hr
 obtain ⟨S, bx, ph, h1, hsp⟩ := hr0
 have h2 := ev_sound h1 c
 rw [hc] at h2
 exact wpIn_cond_split (crep_val h2).1 (fun hb => ht hb w0 S0 F a w hr) (fun hb => hf hb w0 S0 F a w hr)
theorem ai_condj {c : Operand} {x y : Code} {b : Bool} (hc : ev st.s c = .one (.c (.val (.bool b)))) (ht : b = true → AwI l P T x Q st) (hf : b = false → AwI l P T y Q st) : AwI l P T (.cond c x y) Q st := ai_cond hc ht hf
theorem ai_block {id : Nat} {c : Code} (h : AwI l P T c (Blk id Q) st) : AwI l P T (.block id c) Q st := by
 intro w0 S0 F a w hr
 refine wpIn_block (wpIn_mono (h w0 S0 F a w hr) fun e a' w' ⟨st', q, r⟩ => ?_)
 cases e with
 | exit id' =>
  simp only [Exit.inBlock, Blk] at q ⊢
  split
  ·rename_i e; rw [if_pos e] at q; exact ⟨st', q, r⟩
  ·rename_i e; rw [if_neg e] at q; exact ⟨st', q, r⟩
 | _ => exact ⟨st', q, r⟩
def noDefer (ops : Array Oper) : Bool := ops.toList.all fun o => match o.op with | .defer _ => false | _ => true
theorem noDefer_of {ops : Array Oper} (h : noDefer ops = true) : ∀ o ∈ ops.toList, ∀ c, o.op ≠ .defer c := fun o ho c e => by
 have := List.all_eq_true.1 h o ho
 rw [e] at this; cases this
theorem ai_tr1 {j : J} (hj : j = std P T) (hT : TOk P T) (bk : Book) {id : Nat} {ops : Array Oper} {t : Tr} (hnd : noDefer ops = true) (hQ : NoOut Q) (hr : runT T j bk ops.toList [] st ops.toList 0 = t) (h : TrOk (Q .normal) t) : AwI l P T (.region id ops false) Q st := by
 rw [hj] at hr
 intro w0 S0 F a w hrel
 refine wpIn_region (opsIn_of (noDefer_of hnd) (fun h => by obtain ⟨a2, w2, st2, q, _⟩ := h; exact hQ st2 q) _ _ _ ?_)
 have := runT_sound (Q := fun e a' w' => ∃ st', Q e st' ∧ Rels T w0 S0 F st' a' w') (R := Q .normal) hT ops.toList 0 [] st a w hrel (fun k => by rw [Nat.zero_add]) (by rw [hr]; exact h) (fun st' a' w' hR h' => ⟨st', hR, h'⟩)
 simpa using this
theorem no_th {K : St → Prop} (h : NoOut Q) : NoOut (Th K Q) := fun st => h st
theorem no_blk {id : Nat} (h : NoOut Q) : NoOut (Blk id Q) := fun st => h st
theorem ai_tr {j : J} (hj : j = std P T) (hT : TOk P T) (bk : Book) {id : Nat} {ops : Array Oper} {y : Code} {t : Tr} (hnd : noDefer ops = true) (hQ : NoOut Q) (hr : runT T j bk ops.toList [] st ops.toList 0 = t) (h : TrOk (AwI l P T y Q) t) : AwI l P T (.seq (.region id ops false) y) Q st := by
 refine ai_seq fun K hK => ai_tr1 hj hT bk hnd (no_th hQ) hr ?_
 have : ∀ t, TrOk (AwI l P T y Q) t → TrOk (Th K Q .normal) t := by
  intro t
  induction t with
  | done st => exact fun h => hK st h
  | ob l t ih => exact fun h => ⟨h.1, ih h.2⟩
  | cut b x y ih1 ih2 => exact fun h => ⟨fun hb => ih1 (h.1 hb), fun hb => ih2 (h.2 hb)⟩
  | alt n x y ih1 ih2 => exact fun h => ⟨fun hb => ih1 (h.1 hb), ih2 h.2⟩
  | bad => exact fun h => h
 exact this t h
end Go.Proofs.Ytcpcghnpoekhpaa.A
/- A range over a function whose rounds never leave: the law that the ghost machine wants. -/
set_option linter.unusedSimpArgs false
set_option linter.unusedVariables false
set_option maxRecDepth 100000
set_option maxHeartbeats 4000000
namespace Go.Proofs.Ytcpcghnpoekhpaa.A
open Go Go.RowKit
variable {P : Program}
def SeqAll {α : Type} (P : Program) (gf : Nat) (lb : Array Value) (encs : α → Array Value) (xs : List α) (Rd : World → Prop) : Prop :=
 ∀ (l : Nat) (J : (Nat → Prop) → List α → World → Prop) (W : World), (∀ Pn pre W, J Pn pre W → Rd W) → (∀ (Pn Pn' : Nat → Prop) pre W W', Chg Pn W W' → (∀ b, Pn' b → Pn b ∨ (W.heap.size ≤ b ∧ b < W'.heap.size)) → J Pn pre W → J Pn' pre W') →
  (∀ Pn pre x rest W1, xs = pre ++ x :: rest → J Pn pre W1 → YieldAt Fence.wide 0 P l (encs x) W1 fun e W' => e = .returned (.bool true) ∧ J Pn (pre ++ [x]) W' ∧ (∀ b, Pn b → W'.heap[b]? = W1.heap[b]?)) →
  J (fun _ => False) [] W → CallsIn Fence.wide 0 P gf (#[.func (.yield l) #[] #[]] ++ lb) W fun e W' => (∃ v, e = .returned v) ∧ ∃ Pn, J Pn xs W'
theorem heap_old_alloc (w : World) (o : Obj) (k : Nat) (h : k < w.heap.size) : (w.alloc o).heap[k]? = w.heap[k]? := by
 show (w.heap.push o)[k]? = _
 rw [Array.getElem?_push, if_neg (by omega)]
theorem wp_range {α : Type} {g : Operand} {ps : Array Tmp} {assign body : Code} {Q : Exit → Act → World → Prop} {a : Act} {w : World} {gf : Nat} {lb : Array Value} (hg : a.eval g = .func (.func gf) #[] lb)
    (eg : ∀ args w, (callFunc gf args).run P w = .ok (.enter gf args) w) {encs : α → Array Value} {xs : List α} {Rd : World → Prop} (hseq : SeqAll P gf lb encs xs Rd) (hps : ∀ x, (encs x).size = ps.size)
    (I : (Nat → Prop) → List α → World → Prop) (hstart : ∀ o2, I (fun _ => False) [] ((w.alloc (.deferred (some []))).alloc (.loop o2))) (hrd : ∀ Pn pre W, I Pn pre W → Rd W) (hal : ∀ (Pn Pn' : Nat → Prop) pre W W', Chg Pn W W' → (∀ b, Pn' b → Pn b ∨ (W.heap.size ≤ b ∧ b < W'.heap.size)) → I Pn pre W → I Pn' pre W') (hoff : ∀ Pn pre W, I Pn pre W → ¬ Pn (w.heap.size + 1))
    (hput : ∀ Pn pre W o, I Pn pre W → w.heap.size + 1 < W.heap.size → I Pn pre (W.putObj (w.heap.size + 1) o))
    (hround : ∀ l Pn pre x rest W, xs = pre ++ x :: rest → I Pn pre W → assign.wpIn (RF l) 0 P (Exit.then (fun a1 W1 => W1.heap[w.heap.size + 1]? = W.heap[w.heap.size + 1]? ∧ ∀ o, body.wpIn (RF l) 0 P (fun e _ W3 => e = .normal ∧ W3.heap[w.heap.size + 1]? = (W1.putObj (w.heap.size + 1) o).heap[w.heap.size + 1]? ∧ I Pn (pre ++ [x]) W3 ∧ ∀ b, Pn b → W3.heap[b]? = W.heap[b]?) a1 (W1.putObj (w.heap.size + 1) o)) (fun _ _ _ => False))
      { tmps := (ps.zip (encs x)).foldl (fun t (p, v) => t.setIfInBounds p v) a.tmps, defers := [] } W)
    (hdone : ∀ Pn W, I Pn xs W → Q .normal { a with defers := { target := .collected w.heap.size, args := #[] } :: a.defers } W) :
    (Code.rangeFunc g ps assign body).wp P Q a w := by
  refine (wpIn_wide (n := 0)).1 (wpIn_rangeFunc ?_)
  intro fn _
  obtain ⟨rec, hrec⟩ : ∃ rec : LoopState → Option Code → Loop, rec = fun st pe => { state := st, pending := pe, fn, tmps := a.tmps, params := ps, assign, body, defers := w.heap.size } := ⟨_, rfl⟩
  obtain ⟨W1, hW1⟩ : ∃ W1, (w.alloc (.deferred (some []))).alloc (.loop (rec .ready none)) = W1 := ⟨_, rfl⟩
  have hL1 : W1.heap[w.heap.size + 1]? = some (.loop (rec .ready none)) := by
    rw [← hW1]; have := World.alloc_heap_new (w.alloc (.deferred (some []))) (.loop (rec .ready none)); rwa [World.size_alloc] at this
  have hI1 : I (fun _ => False) [] W1 := by rw [← hW1]; exact hstart _
  refine ⟨w.heap.size + 1, [{ target := .collected w.heap.size, args := #[] }], W1, { target := .fn (.func gf) lb, args := #[.func (.yield (w.heap.size + 1)) #[] #[]] }, W1, gf,
    #[.func (.yield (w.heap.size + 1)) #[] #[]] ++ lb, W1, ?_, ?_, ?_, ?_, (fun h => by cases h), ?_⟩
  · rw [← hW1, hrec]; exact run_enterLoop_outer _ _ _ _ _
  · simp only [resolve, hg]
    simp [go_sem]
  · intro f' _; trivial
  · simp [invoke, go_sem, eg]
  · refine (hseq (w.heap.size + 1) (fun Pn pre W => I Pn pre W ∧ W.heap[w.heap.size + 1]? = some (.loop (rec .ready none))) W1 (fun Pn pre W h => hrd Pn pre W h.1)
      (fun Pn Pn' pre W W' hc hp h => ⟨hal Pn Pn' pre W W' hc hp h.1, (hc.block _ (Array.getElem?_eq_some_iff.1 h.2).1 (hoff _ _ _ h.1)).trans h.2⟩) ?_ ⟨hI1, hL1⟩).mono ?_
    · rintro Pn pre x rest W hxs ⟨hi, hl⟩
      have hlt : w.heap.size + 1 < W.heap.size := (Array.getElem?_eq_some_iff.1 hl).1
      have hy := run_yield (P := P) (args := encs x) hl (by rw [hrec]; exact hps x)
      rw [hrec] at hy
      refine ⟨fn, _, assign, body, hy, roundIn_of_wpIn trivial (wpIn_mono (hround (w.heap.size + 1) Pn pre x rest W hxs hi) ?_)⟩
      intro e a1 W2 he
      cases e with
      | normal =>
        obtain ⟨h1, h2⟩ := he
        have hl2 : W2.heap[w.heap.size + 1]? = some (.loop (rec .ready none)) := h1.trans hl
        refine ⟨_, run_beginRound hl2 (by rw [hrec]), wpIn_mono (h2 _) ?_⟩
        rintro e a3 W3 ⟨rfl, h3, h4, h5⟩
        have hl3 : W3.heap[w.heap.size + 1]? = some (.loop { rec .ready none with state := .busy }) := h3.trans (World.putObj_heap_same (Array.getElem?_eq_some_iff.1 hl2).1)
        have hlt3 := (Array.getElem?_eq_some_iff.1 hl3).1
        have := run_endRound (P := P) none hl3
        rw [hrec] at this ⊢
        exact ⟨_, _, this, rfl, ⟨hput _ _ _ _ h4 hlt3, World.putObj_heap_same hlt3⟩, fun b hb => (World.putObj_heap_other (fun (e : b = w.heap.size + 1) => hoff _ _ _ hi (by rw [← e]; exact hb))).trans (h5 b hb)⟩
      | _ => exact he.elim
    · rintro e W2 ⟨⟨v, rfl⟩, Pn, hi, hl⟩
      exact ⟨none, _, by have := run_endLoop (P := P) hl (by rw [hrec]; simp); rw [hrec] at this; exact this, hdone _ _ (hput _ _ _ _ hi (Array.getElem?_eq_some_iff.1 hl).1)⟩
end Go.Proofs.Ytcpcghnpoekhpaa.A
/- The ghost machine: boxes through the rounds of a range over a function. -/
set_option linter.unusedSimpArgs false
set_option linter.unusedVariables false
set_option maxRecDepth 100000
set_option maxHeartbeats 4000000
namespace Go.Proofs.Ytcpcghnpoekhpaa.A
open Go Go.RowKit
variable {P : Program} {T : TT}
structure Hp (T : TT) (X : Nat → Prop) (w : World) (S : Nat → Prop) (r : List Root) (bx : Nat → Nat) (ph : Nat → Nat → Pv) (r' : List Root) (w' : World) (S' : Nat → Prop) (bx' : Nat → Nat) (ph' : Nat → Nat → Pv) : Prop where
 heap : Heap T w' S' r' bx' ph'
 same : ∀ i, bx' i = bx i
 keep : ∀ b, S b → S' b
 new : ∀ b, S' b → S b ∨ w.heap.size ≤ b ∨ ∃ t κ, owns r bx ph t κ b
 mine : ∀ t κ b, owns r' bx' ph' t κ b → w.heap.size ≤ b ∨ ∃ t κ, owns r bx ph t κ b
 chg : Chg (fun b => X b ∨ ∃ t κ, owns r bx ph t κ b) w w'
def Off (S : Nat → Prop) (r : List Root) (bx : Nat → Nat) (ph : Nat → Nat → Pv) (k : Nat) : Prop := ¬ S k ∧ ∀ t κ, ¬ owns r bx ph t κ k
variable {X : Nat → Prop} {w w1 w2 : World} {S S1 S2 : Nat → Prop} {r r1 r2 : List Root} {bx bx1 bx2 : Nat → Nat} {ph ph1 ph2 : Nat → Nat → Pv}
theorem Hp.refl (h : Heap T w S r bx ph) : Hp T X w S r bx ph r w S bx ph := ⟨h, fun _ => rfl, fun _ h => h, fun _ h => .inl h, fun t κ b h => .inr ⟨t, κ, h⟩, Chg.refl _ _⟩
theorem Hp.off (h : Hp T X w S r bx ph r1 w1 S1 bx1 ph1) {k : Nat} (hk : k < w.heap.size) (ho : Off S r bx ph k) : Off S1 r1 bx1 ph1 k := by
 refine ⟨fun hs => ?_, fun t κ hb => ?_⟩
 ·rcases h.new k hs with q | q | ⟨t, κ, q⟩
  ·exact ho.1 q
  ·omega
  ·exact ho.2 t κ q
 ·rcases h.mine t κ k hb with q | ⟨t', κ', q⟩
  ·omega
  ·exact ho.2 t' κ' q
theorem Hp.trans (h1 : Hp T (fun _ => False) w S r bx ph r1 w1 S1 bx1 ph1) (h2 : Hp T X w1 S1 r1 bx1 ph1 r2 w2 S2 bx2 ph2) (hX : ∀ b, X b → w.heap.size ≤ b) : Hp T (fun _ => False) w S r bx ph r2 w2 S2 bx2 ph2 := by
 have hsz := h1.chg.size
 have own : ∀ b, (∃ t κ, owns r1 bx1 ph1 t κ b) → w.heap.size ≤ b ∨ ∃ t κ, owns r bx ph t κ b := fun b ⟨t, κ, h⟩ => h1.mine t κ b h
 refine ⟨h2.heap, fun i => (h2.same i).trans (h1.same i), fun b h => h2.keep b (h1.keep b h), fun b h => ?_, fun t κ b h => ?_, ?_⟩
 ·rcases h2.new b h with q | q | q
  ·exact h1.new b q
  ·exact .inr (.inl (Nat.le_trans hsz q))
  ·exact .inr (own b q)
 ·rcases h2.mine t κ b h with q | q
  ·exact .inl (Nat.le_trans hsz q)
  ·exact own b q
 ·have k := h2.chg
  refine ⟨k.os.trans h1.chg.os, k.tape.trans h1.chg.tape, k.output.trans h1.chg.output, Nat.le_trans hsz k.size, fun b hb hn => ?_⟩
  rw [k.block b (Nat.lt_of_lt_of_le hb hsz) fun q => ?_]
  ·exact h1.chg.block b hb hn
  ·rcases q with q | q
   ·have := hX b q; omega
   ·rcases own b q with q | q
    ·omega
    ·exact hn (.inr q)
theorem Hp.world (h : Hp T (fun _ => False) w S r bx ph r1 w1 S1 bx1 ph1) {W : Nat → Prop} (hc : Chg W w1 w2) (hW : ∀ b, b < w1.heap.size → W b → Off S1 r1 bx1 ph1 b ∧ w.heap.size ≤ b) : Hp T (fun _ => False) w S r bx ph r1 w2 S1 bx1 ph1 := by
 refine ⟨h.heap.frame (fun b hb => hc.block b (h.heap.low.1 b hb) fun hw => (hW b (h.heap.low.1 b hb) hw).1.1 hb) (fun _ h => h) (fun t κ b hb => hc.block b (h.heap.free t κ b hb).2 fun hw => (hW b (h.heap.free t κ b hb).2 hw).1.2 t κ hb) hc.size (fun t κ b hb => (h.heap.free t κ b hb).1) fun b hb => Nat.lt_of_lt_of_le (h.heap.low.1 b hb) hc.size, h.same, h.keep, h.new, h.mine, ?_⟩
 refine ⟨hc.os.trans h.chg.os, hc.tape.trans h.chg.tape, hc.output.trans h.chg.output, Nat.le_trans h.chg.size hc.size, fun b hb hn => ?_⟩
 have hlt : b < w1.heap.size := Nat.lt_of_lt_of_le hb h.chg.size
 rw [hc.block b hlt fun hw => by have := (hW b hlt hw).2; omega]
 exact h.chg.block b hb hn
/-! ### a round's frame: its slots, and boxes beyond them -/
def stR (sl : List V) (rr : List Root) : St := ⟨sl, List.replicate (sl.length + 1) .none ++ rr⟩
def frR (N : Nat) (rr : List Root) (bx : Nat → Nat) (ph : Nat → Nat → Pv) : Fr := ⟨fun b => ∃ t κ, owns rr bx ph t κ b, fun t => bx (t - (N + 1)), []⟩
theorem stR_get (sl : List V) (rr : List Root) (t : Nat) : (stR sl rr).r.getD t .none = if t < sl.length + 1 then .none else rr.getD (t - (sl.length + 1)) .none := by
 unfold stR
 rw [List.getD_eq_getElem?_getD]
 by_cases h : t < sl.length + 1
 ·rw [if_pos h, List.getElem?_append_left (by simpa using h), List.getElem?_replicate]; split <;> rfl
 ·rw [if_neg h, List.getElem?_append_right (by simpa using h), List.length_replicate, List.getD_eq_getElem?_getD]
theorem stR_owns (sl : List V) (rr : List Root) (bx : Nat → Nat) (ph : Nat → Nat → Pv) {t : Nat} {κ : Option Nat} {b : Nat} (h : owns (stR sl rr).r (fun t => bx (t - (sl.length + 1))) (fun t => ph (t - (sl.length + 1))) t κ b) : sl.length + 1 ≤ t ∧ owns rr bx ph (t - (sl.length + 1)) κ b := by
 by_cases ht : t < sl.length + 1
 ·exact (owns_none _ _ _ (by rw [stR_get, if_pos ht]) _ _ h).elim
 ·refine ⟨by omega, ?_⟩
  unfold owns at h ⊢
  rw [stR_get, if_neg ht] at h
  exact h
theorem rel_in {sl : List V} {rr : List Root} (hh : Heap T w S rr bx ph) {a : Act} (ha : a.tmps.size = sl.length) (hd : a.defers = [])
  (hs : ∀ i, i < sl.length → VRep T w S (stR sl rr).r (fun t => bx (t - (sl.length + 1))) (fun t => ph (t - (sl.length + 1))) (a.tmps.getD i undef) (sl.getD i .undef)) :
  Rels T w S (frR sl.length rr bx ph) (stR sl rr) a w := by
 refine ⟨S, fun t => bx (t - (sl.length + 1)), fun t => ph (t - (sl.length + 1)), ⟨ha, ⟨by unfold stR; simp, fun t _ => rfl⟩, hd, ⟨fun t => ?_, fun t κ t' κ' b h1 h2 => ?_, fun t κ b h1 => hh.free _ _ _ (stR_owns sl rr bx ph h1).2, hh.low⟩, fun t κ b h1 => .inr ⟨_, _, (stR_owns sl rr bx ph h1).2⟩, hs, fun _ h => h, fun _ h => .inl h, Chg.refl _ _⟩, by rw [stR_get]; unfold stR; simp⟩
 ·rw [stR_get]; split
  ·trivial
  ·exact hh.root _
 ·obtain ⟨a1, a2⟩ := stR_owns sl rr bx ph h1
  obtain ⟨b1, b2⟩ := stR_owns sl rr bx ph h2
  obtain ⟨e1, e2⟩ := hh.inj _ _ _ _ b a2 b2
  exact ⟨by omega, e2⟩
theorem Rel.rebase {w0 : World} {S0 : Nat → Prop} {F : Fr} {st : St} {a : Act} (h : Rel T w0 S0 F st a w S bx ph) {W : Nat → Prop} (hc : Chg W w w1) (hW : ∀ b, b < w.heap.size → W b → Off S st.r bx ph b) : Rel T w1 S ⟨fun b => ∃ t κ, owns st.r bx ph t κ b, F.pin, F.df⟩ st a w1 S bx ph := by
 have hb : Rel T w S ⟨fun b => (∃ t κ, owns st.r bx ph t κ b) ∨ W b, F.pin, F.df⟩ st a w S bx ph := ⟨h.size, h.rsize, h.defers, h.heap, fun t κ b hb => .inr (.inl ⟨t, κ, hb⟩), h.slot, fun _ h => h, fun _ h => .inl h, Chg.refl _ _⟩
 have h2 := hb.world hc (fun b hb hw => ⟨(hW b hb hw).1, (hW b hb hw).2, .inr (.inr hw)⟩)
 exact ⟨h2.size, h2.rsize, h2.defers, h2.heap, fun t κ b hb => .inr ⟨t, κ, hb⟩, h2.slot, fun _ h => h, fun _ h => .inl h, Chg.refl _ _⟩
theorem hp_out {N : Nat} {rr rr' : List Root} {st1 st3 : St} {a1 a3 : Act} {w0 w3 : World} {W : Nat → Prop} {bxs bx3 : Nat → Nat} {phs ph3 : Nat → Nat → Pv}
  (hh : Heap T w S rr bx ph) (h1 : Rel T w S (frR N rr bx ph) st1 a1 w1 S1 bxs phs) (hc : Chg W w1 w0) (hW : ∀ b, b < w1.heap.size → W b → Off S rr bx ph b ∧ b < w.heap.size)
  (h3 : Rel T w0 S1 ⟨fun b => ∃ t κ, owns st1.r bxs phs t κ b, (frR N rr bx ph).pin, []⟩ st3 a3 w3 S2 bx3 ph3) (hN : st3.s.length = N) (hr : st3.r.drop (N + 1) = rr') :
  Hp T W w S rr bx ph rr' w3 S2 (fun i => bx3 (N + 1 + i)) (fun i => ph3 (N + 1 + i)) := by
 have hg : ∀ t, rr'.getD t .none = st3.r.getD (N + 1 + t) .none := fun t => by rw [← hr, List.getD_eq_getElem?_getD, List.getElem?_drop, ← List.getD_eq_getElem?_getD]
 have ho : ∀ t κ b, owns rr' (fun i => bx3 (N + 1 + i)) (fun i => ph3 (N + 1 + i)) t κ b → owns st3.r bx3 ph3 (N + 1 + t) κ b := fun t κ b h => by
  cases κ with
  | none => unfold owns at h ⊢; rw [hg] at h; exact h
  | some o => unfold owns at h ⊢; rw [hg] at h; exact h
 have hs1 := h1.chg.size
 have hs2 := hc.size
 have own1 : ∀ b, (∃ t κ, owns st1.r bxs phs t κ b) → w.heap.size ≤ b ∨ ∃ t κ, owns rr bx ph t κ b := fun b ⟨t, κ, h⟩ => h1.mine t κ b h
 refine ⟨⟨fun t => ?_, fun t κ t' κ' b b1 b2 => ?_, fun t κ b b1 => h3.heap.free _ _ _ (ho t κ b b1), h3.heap.low⟩, fun i => ?_, fun b h => h3.keep b (h1.keep b h), fun b h => ?_, fun t κ b h => ?_, ?_⟩
 ·rw [hg]; exact h3.heap.root _
 ·obtain ⟨e1, e2⟩ := h3.heap.inj _ _ _ _ b (ho t κ b b1) (ho t' κ' b b2)
  exact ⟨by omega, e2⟩
 ·rw [h3.rsize.2 (N + 1 + i) (by omega)]
  show bx (N + 1 + i - (N + 1)) = bx i
  rw [show N + 1 + i - (N + 1) = i by omega]
 ·rcases h3.new b h with q | q | q
  ·exact h1.new b q
  ·exact .inr (.inl (by omega))
  ·exact .inr (own1 b q)
 ·rcases h3.mine _ _ b (ho t κ b h) with q | q
  ·exact .inl (by omega)
  ·exact own1 b q
 ·have k := h3.chg
  refine ⟨(k.os.trans hc.os).trans h1.chg.os, (k.tape.trans hc.tape).trans h1.chg.tape, (k.output.trans hc.output).trans h1.chg.output, by have := k.size; omega, fun b hb hn => ?_⟩
  rw [k.block b (by omega) fun q => ?_, hc.block b (by omega) fun q => hn (.inl q)]
  ·exact h1.chg.block b hb fun q => hn (.inr q)
  ·rcases own1 b q with q | q
   ·omega
   ·exact hn (.inr q)
end Go.Proofs.Ytcpcghnpoekhpaa.A
/- The ghost machine: a range over a function, round by round. -/
set_option linter.unusedSimpArgs false
set_option linter.unusedVariables false
set_option maxRecDepth 100000
set_option maxHeartbeats 4000000
namespace Go.Proofs.Ytcpcghnpoekhpaa.A
open Go Go.RowKit
variable {P : Program} {T : TT}
theorem putObj_chg (w : World) (L : Nat) (o : Obj) : Chg (fun b => b = L) w (w.putObj L o) := ⟨rfl, rfl, rfl, by simp [World.putObj], fun b _ h => World.putObj_heap_other h⟩
theorem deferred_chg (w : World) (o1 : Option (List Deferred)) (o2 : Loop) : Chg (fun _ => False) w ((w.alloc (.deferred o1)).alloc (.loop o2)) := (Chg.alloc _ w _).trans (Chg.alloc _ _ _)
def RoundTo (l : Nat) (P : Program) (T : TT) (assign body : Code) (sl : List V) (rr rr' : List Root) : Prop :=
 AwI l P T assign (fun e st1 => e = .normal ∧ AwI l P T body (fun e st3 => e = .normal ∧ ∃ st4, Le T st3 st4 ∧ st4.s.length = sl.length ∧ st4.r.drop (sl.length + 1) = rr') st1) (stR sl rr)
theorem round_go {l L : Nat} {assign body : Code} {sl : List V} {rr rr' : List Root} {a : Act} {w : World} {S : Nat → Prop} {bx : Nat → Nat} {ph : Nat → Nat → Pv} (hA : RoundTo l P T assign body sl rr rr') (hh : Heap T w S rr bx ph)
  (ha : a.tmps.size = sl.length) (hd : a.defers = []) (hs : ∀ i, i < sl.length → VRep T w S (stR sl rr).r (fun t => bx (t - (sl.length + 1))) (fun t => ph (t - (sl.length + 1))) (a.tmps.getD i undef) (sl.getD i .undef))
  (hL : L < w.heap.size) (hoff : Off S rr bx ph L) :
  assign.wpIn (RF l) 0 P (Exit.then (fun a1 W1 => W1.heap[L]? = w.heap[L]? ∧ ∀ o, body.wpIn (RF l) 0 P (fun e _ W3 => e = .normal ∧ W3.heap[L]? = (W1.putObj L o).heap[L]? ∧ ∃ S' bx' ph', Hp T (fun b => b = L) w S rr bx ph rr' W3 S' bx' ph') a1 (W1.putObj L o)) (fun _ _ _ => False)) a w := by
 refine wpIn_mono (hA w S (frR sl.length rr bx ph) a w (rel_in hh ha hd hs)) ?_
 rintro e a1 W1 ⟨st1, ⟨rfl, hB⟩, S1, bxs, phs, R1, sp⟩
 have hnF : ¬ (frR sl.length rr bx ph).on L := fun ⟨t, κ, h⟩ => hoff.2 t κ h
 have hoff1 : Off S1 st1.r bxs phs L := by
  refine ⟨fun hs => ?_, fun t κ hb => ?_⟩
  ·rcases R1.new L hs with q | q | q
   ·exact hoff.1 q
   ·omega
   ·exact hnF q
  ·rcases R1.mine t κ L hb with q | q
   ·omega
   ·exact hnF q
 refine ⟨R1.chg.block L hL hnF, fun o => ?_⟩
 have R2 := R1.rebase (putObj_chg W1 L o) (fun b _ hb => hb ▸ hoff1)
 refine wpIn_mono (hB _ _ _ _ _ ⟨S1, bxs, phs, R2, sp⟩) ?_
 rintro e a3 W3 ⟨st3, ⟨rfl, st4, hle, hN, hr⟩, hrel⟩
 obtain ⟨S4, bx4, ph4, R4, _⟩ := hle _ _ _ _ _ hrel
 have hlt : L < (W1.putObj L o).heap.size := Nat.lt_of_lt_of_le hL (Nat.le_trans R1.chg.size (putObj_chg W1 L o).size)
 refine ⟨rfl, R4.chg.block L hlt fun ⟨t, κ, h⟩ => hoff1.2 t κ h, S4, _, _, hp_out hh R1 (putObj_chg W1 L o) (fun b _ hb => hb ▸ ⟨hoff, hL⟩) R4 hN hr⟩
theorem range_go {α : Type} {g : Operand} {ps : Array Tmp} {assign body : Code} {a : Act} {w : World} {gf : Nat} {lb : Array Value} (hg : a.eval g = .func (.func gf) #[] lb)
    (eg : ∀ args w, (callFunc gf args).run P w = .ok (.enter gf args) w) {encs : α → Array Value} {xs : List α} {Rd : World → Prop} (hseq : SeqAll P gf lb encs xs Rd) (hps : ∀ x, (encs x).size = ps.size)
    {S : Nat → Prop} {bx : Nat → Nat} {ph : Nat → Nat → Pv} (Rt : List α → List Root) (sl : α → List V) (hh : Heap T w S (Rt []) bx ph)
    (hrd : ∀ rr W S' bx' ph', Hp T (fun _ => False) w S (Rt []) bx ph rr W S' bx' ph' → Rd W)
    (hsz : ∀ x, a.tmps.size = (sl x).length)
    (hsl : ∀ pre x rest W S' bx' ph', xs = pre ++ x :: rest → Hp T (fun _ => False) w S (Rt []) bx ph (Rt pre) W S' bx' ph' → ∀ i, i < (sl x).length →
      VRep T W S' (stR (sl x) (Rt pre)).r (fun t => bx' (t - ((sl x).length + 1))) (fun t => ph' (t - ((sl x).length + 1))) (((ps.zip (encs x)).foldl (fun t (p, v) => t.setIfInBounds p v) a.tmps).getD i undef) ((sl x).getD i .undef))
    (hrnd : ∀ l pre x rest, xs = pre ++ x :: rest → RoundTo l P T assign body (sl x) (Rt pre) (Rt (pre ++ [x]))) :
    (Code.rangeFunc g ps assign body).wp P (fun e a' w' => e = .normal ∧ a' = { a with defers := { target := .collected w.heap.size, args := #[] } :: a.defers } ∧ ∃ S' bx' ph', Hp T (fun _ => False) w S (Rt []) bx ph (Rt xs) w' S' bx' ph' ∧ Off S' (Rt xs) bx' ph' w.heap.size ∧ w'.heap[w.heap.size]? = some (.deferred (some []))) a w := by
  have hfold : ∀ (l : List (Nat × Value)) (t : Array Value), (l.foldl (fun t (p, v) => t.setIfInBounds p v) t).size = t.size := by
    intro l
    induction l with
    | nil => intro t; rfl
    | cons x l ih => intro t; rw [List.foldl_cons, ih]; simp
  refine wp_range hg eg hseq hps (fun Pn pre W => (∀ b, Pn b → w.heap.size + 1 < b ∧ b < W.heap.size) ∧ ∃ S' bx' ph', Hp T (fun _ => False) w S (Rt []) bx ph (Rt pre) W S' bx' ph' ∧ Off S' (Rt pre) bx' ph' w.heap.size ∧ Off S' (Rt pre) bx' ph' (w.heap.size + 1) ∧ w.heap.size + 1 < W.heap.size ∧ W.heap[w.heap.size]? = some (.deferred (some [])) ∧ ∀ b, Pn b → Off S' (Rt pre) bx' ph' b)
    (fun o2 => ?_) (fun Pn pre W ⟨_, S', bx', ph', h, _⟩ => hrd _ _ _ _ _ h) (fun Pn Pn' pre W W' hc hp ⟨h0, S', bx', ph', h, h1, h2, h3, h4, h5⟩ => ?_) (fun Pn pre W ⟨h0, _⟩ hb => by have := (h0 _ hb).1; omega) (fun Pn pre W o ⟨h0, S', bx', ph', h, h1, h2, h3, h4, h5⟩ _ => ?_) (fun l Pn pre x rest W hxs ⟨h0, S', bx', ph', h, h1, h2, h3, h4, h5⟩ => ?_) (fun Pn W ⟨_, S', bx', ph', h, h1, h2, h3, h4, h5⟩ => ⟨rfl, rfl, S', bx', ph', h, h1, h4⟩)
  · have h0 := (Hp.refl (T := T) (X := fun _ => False) hh).world (W := fun _ => False) (deferred_chg w (some []) o2) (fun b _ hf => hf.elim)
    have hoff : ∀ k, w.heap.size ≤ k → Off S (Rt []) bx ph k := fun k hk => ⟨fun hs => by have := hh.low.1 k hs; omega, fun t κ hb => by have := (hh.free t κ k hb).2; omega⟩
    exact ⟨fun _ hf => hf.elim, S, bx, ph, h0, hoff _ (Nat.le_refl _), hoff _ (Nat.le_succ _), by simp, by rw [heap_old_alloc _ _ _ (by simp)]; exact World.alloc_heap_new w _, fun _ hf => hf.elim⟩
  · have hz := hc.size
    have hw := h.world hc (fun b _ hb => ⟨h5 b hb, by have := (h0 b hb).1; omega⟩)
    refine ⟨fun b hb => ?_, S', bx', ph', hw, h1, h2, Nat.lt_of_lt_of_le h3 hc.size, (hc.block _ (by omega) (fun hb => by have := (h0 _ hb).1; omega)).trans h4, fun b hb => ?_⟩
    · rcases hp b hb with q | q
      · have := h0 b q; omega
      · omega
    · rcases hp b hb with q | q
      · exact h5 b q
      · exact ⟨fun hs => by have := h.heap.low.1 b hs; omega, fun t κ hb => by have := (h.heap.free t κ b hb).2; omega⟩
  · exact ⟨fun b hb => by have := h0 b hb; simpa [World.putObj] using this, S', bx', ph', h.world (putObj_chg W _ o) (fun b _ hb => hb ▸ ⟨h2, by omega⟩), h1, h2, by simpa [World.putObj] using h3, (World.putObj_heap_other (by omega)).trans h4, h5⟩
  · have hfs : ((ps.zip (encs x)).foldl (fun t (p, v) => t.setIfInBounds p v) a.tmps).size = (sl x).length := by
      rw [← Array.foldl_toList, hfold, hsz x]
    refine wpIn_mono (round_go (hrnd l pre x rest hxs) h.heap hfs rfl (hsl pre x rest W S' bx' ph' hxs h) h3 h2) ?_
    · intro e a1 W1 he
      cases e with
      | normal =>
        obtain ⟨q1, q2⟩ := he
        refine ⟨q1, fun o => wpIn_mono (q2 o) ?_⟩
        rintro e a3 W3 ⟨rfl, k1, S3, bx3, ph3, k2⟩
        have hlt : w.heap.size < W.heap.size := by omega
        have hD : W3.heap[w.heap.size]? = some (.deferred (some [])) := (k2.chg.block w.heap.size hlt fun q => by
          rcases q with q | ⟨t, κ, q⟩
          · omega
          · exact h1.2 t κ q).trans h4
        refine ⟨rfl, k1, ⟨fun b hb => ⟨(h0 b hb).1, Nat.lt_of_lt_of_le (h0 b hb).2 k2.chg.size⟩, S3, bx3, ph3, h.trans k2 (fun b hb => by omega), k2.off hlt h1, k2.off h3 h2, Nat.lt_of_lt_of_le h3 k2.chg.size, hD, fun b hb => k2.off (h0 b hb).2 (h5 b hb)⟩, fun b hb => k2.chg.block b (h0 b hb).2 fun q => ?_⟩
        rcases q with q | ⟨t, κ, q⟩
        · have := (h0 b hb).1; omega
        · exact (h5 b hb).2 t κ q
      | exit _ => exact he
      | goto _ => exact he
      | ret => exact he
      | panic _ => exact he
      | outgrown => exact he
end Go.Proofs.Ytcpcghnpoekhpaa.A
/- The ghost machine: regions that draw, whose last operations change memory. -/
set_option linter.unusedSimpArgs false
set_option linter.unusedVariables false
set_option maxRecDepth 100000
set_option maxHeartbeats 4000000
namespace Go.Proofs.Ytcpcghnpoekhpaa.A
open Go Go.RowKit
variable {P : Program} {T : TT} {w w' w0 : World} {S S0 : Nat → Prop} {F : Fr} {bx : Nat → Nat} {ph : Nat → Nat → Pv} {a : Act} {st st' : St} {Q : Exit → St → Prop}
def Closed (ops : Array Oper) (listed : Array Bool) : Prop := ∀ j oj, ops[j]? = some oj → listed.getD j false = true → ∀ e ∈ oj.after, Region.binds .any e = true → listed.getD e.on false = true
theorem Closed.set {ops : Array Oper} {listed : Array Bool} (h : Closed ops listed) {j : Nat} (hj : j ∈ Region.ready .any ops listed) : Closed ops (listed.setIfInBounds j true) := by
 intro k ok hk hl e he hb
 by_cases e1 : j = k
 ·subst e1
  obtain ⟨_, oj, hoj, hall⟩ := mem_ready.1 hj
  rw [hk] at hoj; cases hoj
  exact getD_set_true (hall e he hb)
 ·rw [getD_set_ne false e1] at hl
  exact getD_set_true (h k ok hk hl e he hb)
end Go.Proofs.Ytcpcghnpoekhpaa.A
/- The ghost machine: regions that draw, walked in every order that may come up; what stands in memory that nobody changes is read ahead. -/
set_option linter.unusedSimpArgs false
set_option linter.unusedVariables false
set_option maxRecDepth 100000
set_option maxHeartbeats 4000000
namespace Go.Proofs.Ytcpcghnpoekhpaa.A
open Go Go.RowKit
variable {P : Program} {T : TT} {w w' w0 : World} {S S0 : Nat → Prop} {F : Fr} {bx : Nat → Nat} {ph : Nat → Nat → Pv} {a : Act} {st st' : St} {Q : Exit → St → Prop}
/-! ### loads from memory that nobody changes -/
def keepM : V → V
 | .one (.c c) => .one (.c c)
 | .one (.mem cs o) => .one (.mem cs o)
 | _ => .undef
def shadow (st : St) : St := { s := st.s.map keepM, r := st.r.map fun _ => .none }
def memT (T : TT) (j : J) (st : St) (o : Oper) : Option (V × List Prop) :=
 match o.op with
 | .load _ _ => pureOp T j (shadow st) none o
 | _ => none
def earlyT (T : TT) (j : J) (st : St) (o : Oper) : Option (V × List Prop) :=
 match pureT T j st o false with
 | some r => some r
 | none => memT T j st o
theorem shadow_none (st : St) (t : Nat) : (shadow st).r.getD t .none = .none := by
 unfold shadow
 simp only [List.getD_eq_getElem?_getD, List.getElem?_map]
 cases st.r[t]? <;> rfl
theorem shadow_rel (h : Rel T w0 S0 F st a w S bx ph) : Rel T w0 S0 F (shadow st) a w S bx ph := by
 have hno : ∀ t κ b, ¬ owns (shadow st).r bx ph t κ b := fun t κ b hb => (owns_none _ _ _ (shadow_none st t) _ _ hb).elim
 refine ⟨by simp [shadow, h.size], ⟨by simpa [shadow] using h.rsize.1, fun t ht => h.rsize.2 t (by simpa [shadow] using ht)⟩, h.defers, ⟨fun t => by rw [shadow_none]; trivial, fun t κ t' κ' b hb => absurd hb (hno _ _ _), fun t κ b hb => absurd hb (hno _ _ _), h.heap.low⟩, fun t κ b hb => absurd hb (hno _ _ _), fun i hi => ?_, h.keep, h.new, h.chg⟩
 have hi' : i < st.s.length := by simpa [shadow] using hi
 have hv := h.slot i hi'
 have e : (shadow st).s.getD i .undef = keepM (st.s.getD i .undef) := by
  simp only [shadow, List.getD_eq_getElem?_getD, List.getElem?_map, List.getElem?_eq_getElem hi', Option.map_some, Option.getD_some]
 rw [e]
 generalize st.s.getD i .undef = V at hv
 unfold keepM
 split
 ·exact hv
 ·exact hv
 ·trivial
theorem xrep_shadow {v : Value} {x : X} {r : List Root} (h : XRep T w S (shadow st).r bx ph v x) : XRep T w S r bx ph v x := by
 have hn := shadow_none st
 cases x with
 | c c => exact h
 | mem cs o => exact h
 | undef => trivial
 | view t o => obtain ⟨e, n, cells, h1, _⟩ := h; rw [hn] at h1; simp [Root.row] at h1
 | mv t o => obtain ⟨e, n, h1, _⟩ := h; rw [hn] at h1; simp [Root.row] at h1
 | sub t o lo hi => obtain ⟨e, n, cells, _, _, _, h1, _⟩ := h; rw [hn] at h1; simp [Root.row] at h1
 | ptr t o => obtain ⟨row, h1, _⟩ := h; rw [hn] at h1; cases h1
 | eptr t o k => obtain ⟨e, n, cells, _, _, h1, _⟩ := h; rw [hn] at h1; simp [Root.row] at h1
 | tv t o p => obtain ⟨_, _, _, _, h1, _⟩ := h; rw [hn] at h1; simp [Root.row] at h1
 | tp t o p k off => obtain ⟨_, _, _, _, _, _, _, _, _, h1, _⟩ := h; rw [hn] at h1; simp [Root.row] at h1
 | bfn f t => obtain ⟨⟨row, h1, _⟩, _⟩ := h; rw [hn] at h1; cases h1
 | fn f caps =>
  obtain ⟨h1, h2⟩ := h
  refine ⟨h1, fun t ht => ?_⟩
  obtain ⟨row, h3, _⟩ := h2 t ht
  rw [hn] at h3; cases h3
theorem memT_sound (hT : TOk P T) (h : Rel T w0 S0 F st a w S bx ph) {o : Oper} {V1 : V} {obl : List Prop} (hp : memT T (std P T) st o = some (V1, obl)) (ho : ∀ p ∈ obl, p) :
  ∃ z, (∀ w1 : World, (∀ b, S b → w1.heap[b]? = w.heap[b]?) → (execOp a.eval o).run P w1 = .ok (.value z) w1) ∧ VRep T w S st.r bx ph z V1 := by
 unfold memT at hp
 split at hp
 ·obtain ⟨z, r1, r2⟩ := pureOp_sound hT (shadow_rel h) hp ho
  refine ⟨z, fun w1 hS => r1 w1 (.inr ⟨hS, fun t κ b hb => (owns_none _ _ _ (shadow_none st t) _ _ hb).elim⟩), VRep.mono (fun v x hx => xrep_shadow hx) r2⟩
 ·cases hp
theorem earlyT_sound (hT : TOk P T) (h : Rel T w0 S0 F st a w S bx ph) {o : Oper} {V1 : V} {obl : List Prop} (hp : earlyT T (std P T) st o = some (V1, obl)) (ho : ∀ p ∈ obl, p) :
  ∃ z, (∀ w1 : World, (∀ b, S b → w1.heap[b]? = w.heap[b]?) → (execOp a.eval o).run P w1 = .ok (.value z) w1) ∧ VRep T w S st.r bx ph z V1 := by
 unfold earlyT at hp
 split at hp
 ·rename_i r hr
  cases hp
  obtain ⟨z, r1, r2⟩ := pureT_sound hT h hr ho
  exact ⟨z, fun w1 _ => r1 w1 (fun e => by cases e), r2⟩
 ·exact memT_sound hT h hp ho
/-! ### every order -/
inductive CT where
 | done
 | take (i : Nat) (r : CT)
 | alt (i : Nat) (x y : CT)
 | last (i : Nat) (x : CT)
def CT.dp : CT → Nat
 | .done => 0
 | .take _ r => r.dp + 1
 | .alt _ x _ => x.dp + 1
 | .last _ x => x.dp + 1
def CT.opts : CT → List Nat
 | .alt i _ y => i :: y.opts
 | .last i _ => [i]
 | _ => []
def ctOk (ops : Array Oper) : Array Bool → List Nat → CT → Bool
 | listed, acc, .done => acc.isEmpty && (Region.ready .any ops listed).isEmpty
 | listed, acc, .take i r => acc.isEmpty && Region.free .any ops listed i && (Region.ready .any ops listed).contains i && ctOk ops (listed.setIfInBounds i true) [] r
 | listed, acc, .alt i x y => (y.dp == x.dp + 1) && !y.opts.isEmpty && ctOk ops (listed.setIfInBounds i true) [] x && ctOk ops listed (acc ++ [i]) y
 | listed, acc, .last i x => Region.ready .any ops listed == acc ++ [i] && ctOk ops (listed.setIfInBounds i true) [] x
def eOk (ops : Array Oper) : Array Bool → List Nat → Option (Array Bool)
 | listed, [] => some listed
 | listed, i :: is => if Region.free .any ops listed i && (Region.ready .any ops listed).contains i then eOk ops (listed.setIfInBounds i true) is else none
def certC (ops : Array Oper) (c0 : List Nat) (ct : CT) : Bool :=
 Region.noSelect ops && c0.length + ct.dp == ops.size && (match eOk ops (Array.replicate ops.size false) c0 with | some listed => ctOk ops listed [] ct | none => false)
def askN (kn : List Nat) (st : St) (x : Option Nat) (f : List Nat → St → Tr) : Tr :=
 match askT kn st x with
 | some (d, b) => .cut b (f (d :: kn) (setB st d true)) (f (d :: kn) (setB st d false))
 | none => f kn st
theorem askN_sound {R : St → Prop} {kn : List Nat} {x : Option Nat} {f : List Nat → St → Tr} (h : TrOk R (askN kn st x f)) : ∃ kn', TrOk R (f kn' st) := by
 unfold askN at h
 split at h
 ·rename_i d b hask; exact tcut_sound (f := f) hask h
 ·exact ⟨kn, h⟩
def stepN (ops : List Oper) (o : Oper) (G : List Nat → St → Tr) (k : List Nat → St → Tr) (kn : List Nat) (st : St) : Tr :=
 askN kn st (guardD ops o) fun kn st =>
  match wantT ops st o with
  | some true => askN kn st (pickD o) G
  | some false => k kn (put st o.dst .nop)
  | none => .bad
def gNow (T : TT) (j : J) (bk : Book) (ops : List Oper) (i : Nat) (o : Oper) (k : List Nat → St → Tr) (kn : List Nat) (st : St) : Tr :=
 match pureT T j st o true with
 | some (v, obl) => Tr.with obl (k (learn kn st o) (put st o.dst v))
 | none => match stepT T j bk ops st o i with
  | some (st1, obl) => Tr.with obl (k (learn kn st o) st1)
  | none => .bad
def gAny (T : TT) (j : J) (o : Oper) (k : List Nat → St → Tr) (kn : List Nat) (st : St) : Tr :=
 match pureT T j st o false with
 | some (v, obl) => Tr.with obl (k (learn kn st o) (put st o.dst v))
 | none => .bad
def runC (T : TT) (j : J) (bk : Book) (ops : List Oper) : CT → List Nat → St → Tr
 | .done, _, st => .done st
 | .take i r, kn, st => match ops[i]? with
  | some o => stepN ops o (gAny T j o fun kn st => runC T j bk ops r kn st) (fun kn st => runC T j bk ops r kn st) kn st
  | none => .bad
 | .alt i x y, kn, st => match ops[i]? with
  | some o => .alt 0 (stepN ops o (gNow T j bk ops i o fun kn st => runC T j bk ops x kn st) (fun kn st => runC T j bk ops x kn st) kn st) (runC T j bk ops y kn st)
  | none => .bad
 | .last i x, kn, st => match ops[i]? with
  | some o => stepN ops o (gNow T j bk ops i o fun kn st => runC T j bk ops x kn st) (fun kn st => runC T j bk ops x kn st) kn st
  | none => .bad
def runE (T : TT) (j : J) (ops : List Oper) : List Nat → St → Option (St × List Prop)
 | [], st => some (st, [])
 | i :: is, st =>
  match ops[i]? with
  | some o =>
   if o.guard.isSome then none else
   match earlyT T j st o with
   | some (v, obl) => (match runE T j ops is (put st o.dst v) with | some (st', obl') => some (st', obl ++ obl') | none => none)
   | none => none
  | none => none
def runZ (T : TT) (j : J) (bk : Book) (ops : List Oper) (c0 : List Nat) (ct : CT) (st : St) : Tr :=
 match runE T j ops c0 st with
 | some (st1, obl) => Tr.with obl (runC T j bk ops ct [] st1)
 | none => .bad
theorem put_rels (h : Rel T w0 S0 F st a w S bx ph) (hsp : st.r.getD st.s.length .none = .none) (d : Option Nat) {z : Value} {v : V} (hv : VRep T w S st.r bx ph z v) : Rel T w0 S0 F (put st d v) (a.put d z) w S bx ph ∧ (put st d v).r.getD (put st d v).s.length .none = .none := by
 refine ⟨?_, ?_⟩
 ·cases d with
  | none => exact h
  | some d => exact h.put d hv
 ·cases d with
  | none => exact hsp
  | some d => show st.r.getD (st.s.set d v).length .none = .none; rw [List.length_set]; exact hsp
theorem stepNow_sound (hT : TOk P T) (h : Rels T w0 S0 F st a w) {bk : Book} {ops : Array Oper} {i : Nat} {o : Oper} (hoi : ops[i]? = some o) {R : St → Prop} {k : List Nat → St → Tr} {kn : List Nat} (hr : TrOk R (stepN ops.toList o (gNow T (std P T) bk ops.toList i o k) k kn st))
  {K : Act → World → Prop} {Q : Exit → Act → World → Prop} (hK : ∀ kn' st' a' w', Rels T w0 S0 F st' a' w' → TrOk R (k kn' st') → K a' w') : wpOp P ops Q i K a w := by
 obtain ⟨kn1, h1⟩ := askN_sound hr
 unfold wpOp
 rw [hoi]
 dsimp only
 split at h1
 ·rename_i hw
  rw [if_pos (wantT_sound P h hw)]
  obtain ⟨kn2, h2⟩ := askN_sound h1
  refine .inl ?_
  unfold gNow at h2
  split at h2
  ·rename_i v obl hp
   obtain ⟨h3, h4⟩ := tr_with h2
   obtain ⟨S, bx, ph, hr0, hsp⟩ := h
   obtain ⟨z, r1, r2⟩ := pureT_sound hT hr0 hp h3
   obtain ⟨q1, q2⟩ := put_rels hr0 hsp o.dst r2
   exact wp_value (r1 w fun _ => Keep.refl _ _ _ _ _) (hK _ _ _ _ ⟨S, bx, ph, q1, q2⟩ h4)
  ·split at h2
   ·rename_i st1 obl hst
    obtain ⟨h3, h4⟩ := tr_with h2
    exact stepT_sound2 hT h hst h3 fun z w' hz _ => hK _ _ _ _ hz h4
   ·exact h2.elim
 ·rename_i hw
  rw [if_neg (by rw [wantT_sound P h hw]; simp)]
  exact hK _ _ _ _ (nop_rels h _) h1
 ·exact h1.elim
theorem ct_ready {ops : Array Oper} : ∀ (ct : CT) (listed : Array Bool) (acc : List Nat), ctOk ops listed acc ct = true → ct.opts ≠ [] → Region.ready .any ops listed = acc ++ ct.opts := by
 intro ct
 induction ct with
 | done => intro _ _ _ h; exact absurd rfl h
 | take i r _ => intro _ _ _ h; exact absurd rfl h
 | alt i x y _ ihy =>
  intro listed acc h _
  simp only [ctOk, Bool.and_eq_true, Bool.not_eq_true', List.isEmpty_eq_false_iff] at h
  have := ihy listed (acc ++ [i]) h.2 h.1.1.2
  rw [this]; simp [CT.opts]
 | last i x _ =>
  intro listed acc h _
  simp only [ctOk, Bool.and_eq_true, beq_iff_eq] at h
  exact h.1
theorem runC_sound (hT : TOk P T) {bk : Book} {ops : Array Oper} {R : St → Prop} (hns : Region.noSelect ops = true) {Q : Exit → Act → World → Prop} (hQ : ∀ c a w, ¬ Q (.panic c) a w)
  (hE : ∀ st' a' w', R st' → Rels T w0 S0 F st' a' w' → Q .normal a' w') {Sp : World → Prop} (hSp : ∀ st' a' w', Rels T w0 S0 F st' a' w' → Sp w') :
  ∀ (ct : CT) (listed : Array Bool) (acc : List Nat) (kn : List Nat) (st : St) (a : Act) (w : World), ctOk ops listed acc ct = true → Rels T w0 S0 F st a w → TrOk R (runC T (std P T) bk ops.toList ct kn st) →
   (acc = [] → wpAnyH P .any ops Q Sp ct.dp listed a w) ∧ ∀ i ∈ ct.opts, wpOp P ops Q i (fun a' w' => Sp w' ∧ wpAnyH P .any ops Q Sp (ct.dp - 1) (listed.setIfInBounds i true) a' w') a w := by
 intro ct
 induction ct with
 | done =>
  intro listed acc kn st a w hc hrel hr
  simp only [ctOk, Bool.and_eq_true, List.isEmpty_iff] at hc
  exact ⟨fun _ => wpAnyH_done hc.2 (hE st a w hr hrel) 0, fun i hi => absurd hi (by simp [CT.opts])⟩
 | take i r ih =>
  intro listed acc kn st a w hc hrel hr
  simp only [ctOk, Bool.and_eq_true] at hc
  refine ⟨fun _ => ?_, fun i hi => absurd hi (by simp [CT.opts])⟩
  unfold runC at hr
  split at hr
  ·rename_i o hoi
   have hoi' : ops[i]? = some o := by rw [← hoi]; simp
   obtain ⟨kn1, h1⟩ := askN_sound hr
   have go : ∀ (v : Value) (st2 : St) (kn2 : List Nat), YieldsIf P ops Sp o v a → Rels T w0 S0 F st2 (a.put o.dst v) w → TrOk R (runC T (std P T) bk ops.toList r kn2 st2) → wpAnyH P .any ops Q Sp (r.dp + 1) listed a w := fun v st2 kn2 hy hrel2 hr2 =>
    wpAnyH_take hoi' hns hc.1.1.2 hc.1.2 (fun c a w h => absurd h (hQ c _ w)) hy (hSp _ _ _ hrel) ((ih _ [] kn2 st2 _ w hc.2 hrel2 hr2).1 rfl)
   split at h1
   ·rename_i hw
    obtain ⟨kn2, h2⟩ := askN_sound h1
    unfold gAny at h2
    split at h2
    ·rename_i v obl hp
     obtain ⟨h3, h4⟩ := tr_with h2
     have hwt := wantT_sound P hrel hw
     obtain ⟨S, bx, ph, hr0, hsp⟩ := hrel
     obtain ⟨z, r1, r2⟩ := pureT_sound hT hr0 hp h3
     obtain ⟨q1, q2⟩ := put_rels hr0 hsp o.dst r2
     exact wpAnyH_take hoi' hns hc.1.1.2 hc.1.2 (fun c a w h => absurd h (hQ c _ w)) (.inl ⟨hwt, fun w1 _ => r1 w1 (fun e => by cases e)⟩) (hSp _ _ _ ⟨S, bx, ph, hr0, hsp⟩) ((ih _ [] _ _ _ w hc.2 ⟨S, bx, ph, q1, q2⟩ h4).1 rfl)
    ·exact h2.elim
   ·rename_i hw
    exact go undef _ kn1 (.inr ⟨wantT_sound P hrel hw, rfl⟩) (nop_rels hrel _) h1
   ·exact h1.elim
  ·exact hr.elim
 | alt i x y ihx ihy =>
  intro listed acc kn st a w hc hrel hr
  have hc0 := hc
  simp only [ctOk, Bool.and_eq_true, beq_iff_eq, Bool.not_eq_true', List.isEmpty_eq_false_iff] at hc
  unfold runC at hr
  split at hr
  ·rename_i o hoi
   have hoi' : ops[i]? = some o := by rw [← hoi]; simp
   obtain ⟨ha, hb⟩ := hr
   have hstep : wpOp P ops Q i (fun a' w' => Sp w' ∧ wpAnyH P .any ops Q Sp x.dp (listed.setIfInBounds i true) a' w') a w :=
    stepNow_sound hT hrel hoi' (ha rfl) fun kn' st' a' w' hrel' hr' => ⟨hSp _ _ _ hrel', (ihx _ [] kn' st' a' w' hc.1.2 hrel' hr').1 rfl⟩
   have hrest := (ihy listed (acc ++ [i]) kn st a w hc.2 hrel hb).2
   have hall : ∀ k ∈ (CT.alt i x y).opts, wpOp P ops Q k (fun a' w' => Sp w' ∧ wpAnyH P .any ops Q Sp ((CT.alt i x y).dp - 1) (listed.setIfInBounds k true) a' w') a w := fun k hk => by
    rcases List.mem_cons.1 hk with rfl | hk
    ·exact hstep
    ·have := hrest k hk
     rw [hc.1.1.1] at this
     exact this
   refine ⟨fun e => ?_, hall⟩
   have hrd := ct_ready _ _ _ hc0 (by simp [CT.opts])
   rw [e, List.nil_append] at hrd
   exact wpAnyH_all hrd (by simp [CT.opts]) hall
  ·exact hr.elim
 | last i x ihx =>
  intro listed acc kn st a w hc hrel hr
  have hc0 := hc
  simp only [ctOk, Bool.and_eq_true, beq_iff_eq] at hc
  unfold runC at hr
  split at hr
  ·rename_i o hoi
   have hoi' : ops[i]? = some o := by rw [← hoi]; simp
   have hall : ∀ k ∈ (CT.last i x).opts, wpOp P ops Q k (fun a' w' => Sp w' ∧ wpAnyH P .any ops Q Sp ((CT.last i x).dp - 1) (listed.setIfInBounds k true) a' w') a w := fun k hk => by
    obtain rfl : k = i := List.mem_singleton.1 hk
    exact stepNow_sound hT hrel hoi' hr fun kn' st' a' w' hrel' hr' => ⟨hSp _ _ _ hrel', (ihx _ [] kn' st' a' w' hc.2 hrel' hr').1 rfl⟩
   refine ⟨fun e => ?_, hall⟩
   have hrd := ct_ready _ _ _ hc0 (by simp [CT.opts])
   rw [e, List.nil_append] at hrd
   exact wpAnyH_all hrd (by simp [CT.opts]) hall
  ·exact hr.elim
theorem runE_sound (hT : TOk P T) {ops : Array Oper} (hns : Region.noSelect ops = true) {Q : Exit → Act → World → Prop} (hQ : ∀ c a w, ¬ Q (.panic c) a w) {Sp : World → Prop} (hSpS : ∀ w1, Sp w1 → ∀ b, S b → w1.heap[b]? = w.heap[b]?) (hSp0 : Sp w) :
  ∀ (c0 : List Nat) (listed listed' : Array Bool) (n : Nat) (st st' : St) (a : Act) (obl : List Prop), eOk ops listed c0 = some listed' → Rel T w0 S0 F st a w S bx ph → st.r.getD st.s.length .none = .none → runE T (std P T) ops.toList c0 st = some (st', obl) → (∀ p ∈ obl, p) →
   (∀ a', Rel T w0 S0 F st' a' w S bx ph → st'.r.getD st'.s.length .none = .none → wpAnyH P .any ops Q Sp n listed' a' w) → wpAnyH P .any ops Q Sp (c0.length + n) listed a w := by
 intro c0
 induction c0 with
 | nil =>
  intro listed listed' n st st' a obl he hrel hsp hr ho hK
  simp only [eOk, Option.some.injEq] at he
  simp only [runE, Option.some.injEq, Prod.mk.injEq] at hr
  obtain ⟨rfl, rfl⟩ := hr
  subst he
  rw [List.length_nil, Nat.zero_add]
  exact hK a hrel hsp
 | cons i is ih =>
  intro listed listed' n st st' a obl he hrel hsp hr ho hK
  unfold eOk at he
  split at he
  ·rename_i hfr
   simp only [Bool.and_eq_true] at hfr
   unfold runE at hr
   split at hr
   ·rename_i o hoi
    have hoi' : ops[i]? = some o := by rw [← hoi]; simp
    split at hr
    ·cases hr
    ·rename_i hg
     split at hr
     ·rename_i v obl1 hp
      split at hr
      ·rename_i st2 obl2 h2
       simp only [Option.some.injEq, Prod.mk.injEq] at hr
       obtain ⟨rfl, rfl⟩ := hr
       obtain ⟨z, r1, r2⟩ := earlyT_sound hT hrel hp fun p hp => ho p (List.mem_append_left _ hp)
       obtain ⟨q1, q2⟩ := put_rels hrel hsp o.dst r2
       have hw : Region.wanted o (yielded ops a.tmps) = true := by
        have : o.guard = none := by simpa using hg
        unfold Region.wanted; rw [this]
       have h3 := ih _ listed' n _ _ _ obl2 he q1 q2 h2 (fun p hp => ho p (List.mem_append_right _ hp)) hK
       rw [List.length_cons, Nat.add_right_comm]
       exact wpAnyH_take hoi' hns hfr.1 hfr.2 (fun c a w h => absurd h (hQ c _ w)) (.inl ⟨hw, fun w1 hs => r1 w1 (hSpS w1 hs)⟩) hSp0 h3
      ·cases hr
     ·cases hr
   ·cases hr
  ·cases he
theorem aw_dc1 {j : J} (hj : j = std P T) (hT : TOk P T) (hm : P.follows .mixedOrders = true) (bk : Book) (c0 : List Nat) (ct : CT) {id : Nat} {ops : Array Oper} {t : Tr} (hc : certC ops c0 ct = true)
  (hr : runZ T j bk ops.toList c0 ct st = t) (h : TrOk (Q .normal) t) : Aw P T (.region id ops true) Q st := by
 rw [hj] at hr
 simp only [certC, Bool.and_eq_true, beq_iff_eq] at hc
 intro w0 S0 F a w hrel
 obtain ⟨S, bx, ph, h0, hsp⟩ := hrel
 obtain ⟨⟨hns, hlen⟩, hct⟩ := hc
 split at hct
 ·rename_i listed he
  let w1 : World := { w with drawn := w.drawn + 1 }
  let F1 : Fr := ⟨fun b => ∃ t κ, owns st.r bx ph t κ b, F.pin, F.df⟩
  have hd := h0.world (w' := w.drew) (W := fun _ => False) (Chg.drew _ w) (fun _ _ hf => hf.elim)
  have hb : Rel T w1 S F1 st a w1 S bx ph := ⟨hd.size, hd.rsize, hd.defers, hd.heap, fun t κ b hb => .inr ⟨t, κ, hb⟩, hd.slot, fun _ hb => hb, fun _ hb => .inl hb, ⟨rfl, rfl, rfl, Nat.le_refl _, fun _ _ _ => rfl⟩⟩
  have back : ∀ st' a' w', Rels T w1 S F1 st' a' w' → Rels T w0 S0 F st' a' w' := fun st' a' w' ⟨S', bx', ph', g, gsp⟩ => by
   have hsz : w0.heap.size ≤ w1.heap.size := hd.chg.size
   refine ⟨S', bx', ph', ⟨g.size, g.rsize, g.defers, g.heap, fun t κ b hb => ?_, g.slot, fun b hb => g.keep b (hd.keep b hb), fun b hb => ?_, ?_⟩, gsp⟩
   ·rcases g.mine t κ b hb with h1 | ⟨t', κ', h1⟩
    ·exact .inl (Nat.le_trans hsz h1)
    ·exact hd.mine _ _ _ h1
   ·rcases g.new b hb with h1 | h1 | ⟨t', κ', h1⟩
    ·exact hd.new b h1
    ·exact .inr (.inl (Nat.le_trans hsz h1))
    ·exact .inr (hd.mine _ _ _ h1)
   ·have k := g.chg
    refine ⟨k.os.trans hd.chg.os, k.tape.trans hd.chg.tape, k.output.trans hd.chg.output, Nat.le_trans hsz k.size, fun i hi hs => (k.block i (Nat.lt_of_lt_of_le hi hsz) fun ⟨t', κ', h1⟩ => ?_).trans (hd.chg.block i hi hs)⟩
    rcases hd.mine _ _ _ h1 with h2 | h2
    ·exact absurd hi (Nat.not_lt.2 h2)
    ·exact hs h2
  have hSp : ∀ st' a' w', Rels T w1 S F1 st' a' w' → ∀ b, S b → w'.heap[b]? = w1.heap[b]? := fun st' a' w' ⟨S', bx', ph', g, _⟩ b hb =>
   g.chg.block b (hd.heap.low.1 b hb) fun ⟨t', κ', h1⟩ => (hd.heap.free t' κ' b h1).1 hb
  refine wp_mono (Q := fun e a' w' => e = .normal ∧ ∃ st', Q .normal st' ∧ Rels T w0 S0 F st' a' w') ?_ (fun e a' w' hh => by obtain ⟨rfl, hh⟩ := hh; exact hh)
  refine wp_region_held (S := fun w' => ∀ b, S b → w'.heap[b]? = w1.heap[b]?) hm ?_
  unfold runZ at hr
  split at hr
  ·rename_i st1 obl hre
   rw [← hr] at h
   obtain ⟨h3, h4⟩ := tr_with h
   have key := runE_sound (w := w1) (Sp := fun w' => ∀ b, S b → w'.heap[b]? = w1.heap[b]?) (Q := fun e a' w' => e = .normal ∧ ∃ st', Q .normal st' ∧ Rels T w0 S0 F st' a' w') hT hns (fun c a w h => by cases h.1) (fun w1 hs => hs) (fun _ _ => rfl) c0 _ listed ct.dp st st1 a obl he hb hsp hre h3 fun a' ha' hsp' =>
    (runC_sound (Q := fun e a' w' => e = .normal ∧ ∃ st', Q .normal st' ∧ Rels T w0 S0 F st' a' w') (R := Q .normal) hT hns (fun c a w h => by cases h.1) (fun st' a' w' hR h' => ⟨rfl, st', hR, back _ _ _ h'⟩) (Sp := fun w' => ∀ b, S b → w'.heap[b]? = w1.heap[b]?) hSp ct listed [] [] st1 a' w1 hct ⟨S, bx, ph, ha', hsp'⟩ h4).1 rfl
   rw [hlen] at key
   exact key
  ·rw [← hr] at h; exact h.elim
 ·cases hct
theorem aw_dc {j : J} (hj : j = std P T) (hT : TOk P T) (hm : P.follows .mixedOrders = true) (bk : Book) (c0 : List Nat) (ct : CT) {id : Nat} {ops : Array Oper} {y : Code} {t : Tr} (hc : certC ops c0 ct = true)
  (hr : runZ T j bk ops.toList c0 ct st = t) (h : TrOk (Aw P T y Q) t) : Aw P T (.seq (.region id ops true) y) Q st := by
 refine aw_seq fun K hK => aw_dc1 hj hT hm bk c0 ct hc hr ?_
 have : ∀ t, TrOk (Aw P T y Q) t → TrOk (Th K Q .normal) t := by
  intro t
  induction t with
  | done st => exact fun h => hK st h
  | ob l t ih => exact fun h => ⟨h.1, ih h.2⟩
  | cut b x y ih1 ih2 => exact fun h => ⟨fun hb => ih1 (h.1 hb), fun hb => ih2 (h.2 hb)⟩
  | alt n x y ih1 ih2 => exact fun h => ⟨fun hb => ih1 (h.1 hb), ih2 h.2⟩
  | bad => exact fun h => h
 exact this t h
end Go.Proofs.Ytcpcghnpoekhpaa.A
/- The ghost machine: what a map with strings for keys tells; results with roots that came in. -/
set_option linter.unusedSimpArgs false
set_option linter.unusedVariables false
set_option maxRecDepth 100000
set_option maxHeartbeats 4000000
namespace Go.Proofs.Ytcpcghnpoekhpaa.A
open Go Go.RowKit
variable {P : Program} {T : TT} {st : St}
theorem keq_str (a : ByteArray) (x : Value) : keq (.string a) x = true ↔ x = .string a := by
 cases x <;> simp [keq, eq_comm]
theorem kidx_some {ks : List Value} {a : ByteArray} {i : Nat} (h : kidx ks (.string a) = some i) : ∃ h : i < ks.length, ks[i] = .string a := by
 unfold kidx at h
 obtain ⟨h1, h2, _⟩ := List.findIdx?_eq_some_iff_getElem.1 h
 exact ⟨h1, (keq_str a _).1 h2⟩
def mgetS (m : GM) (a : ByteArray) (z : C) : C := mgetC m.ks m.vs (.string a) z
theorem mget_set (m : GM) (a b : ByteArray) (v z : C) : mgetS (m.set (.string a) v) b z = if a = b then v else mgetS m b z := by
 unfold mgetS GM.set
 cases hk : kidx m.ks (.string a) with
 | some i =>
  obtain ⟨hi, hki⟩ := kidx_some hk
  have hv : i < m.vs.length := by rw [m.l1]; exact hi
  show mgetC m.ks (m.vs.set i v) (.string b) z = _
  unfold mgetC
  by_cases e : a = b
  ·subst e
   rw [hk, if_pos rfl]
   simp [List.getD_eq_getElem?_getD, hv]
  ·rw [if_neg e]
   cases hb : kidx m.ks (.string b) with
   | none => rfl
   | some i2 =>
    obtain ⟨hi2, hki2⟩ := kidx_some hb
    have hne : i ≠ i2 := fun e2 => by
     subst e2; rw [hki] at hki2; exact e (by cases hki2; rfl)
    simp [List.getD_eq_getElem?_getD, List.getElem?_set_ne hne]
 | none =>
  show mgetC (m.ks ++ [.string a]) (m.vs ++ [v]) (.string b) z = _
  unfold mgetC kidx
  rw [List.findIdx?_append]
  by_cases e : a = b
  ·subst e
   rw [if_pos rfl]
   have h1 : m.ks.findIdx? (keq (.string a)) = none := hk
   rw [h1, List.findIdx?_singleton, if_pos (by simp [keq])]
   simp [← m.l1, List.getD_eq_getElem?_getD]
  ·rw [if_neg e, List.findIdx?_singleton, if_neg (by simp [keq]; exact fun h => e h.symm)]
   cases hb : kidx m.ks (.string b) with
   | none =>
    have h1 : m.ks.findIdx? (keq (.string b)) = none := hb
    rw [h1]; rfl
   | some i2 =>
    have h1 : m.ks.findIdx? (keq (.string b)) = some i2 := hb
    obtain ⟨hi2, _⟩ := kidx_some hb
    have hv : i2 < m.vs.length := by rw [m.l1]; exact hi2
    rw [h1]
    simp [List.getD_eq_getElem?_getD, List.getElem?_append_left hv]
theorem ret_oku {j : J} (hj : j = std P T) {fn : Func} {ret : RV} {vs : List V} {row : List RC} {obl : List Prop} {upd outs : List Root} {N : Nat} (h : retOf T j fn.results.toList st = some (vs, row, obl)) (hu : outsOf T j fn.results.toList st = outs) (hn : st.s.length = N)
  (ho : ∀ p ∈ obl, p) (he : ret = ⟨decide (fn.results.size ≠ 1), splitRow vs row⟩) (hl : ∀ (k : Nat) (R : Root), upd[k]? = some R → LeRoot (outs.getD k .none) R) : RetOk P T fn st ret upd N := by
 rw [hj] at h hu
 exact ⟨⟨vs, row, obl, row, h, ho, LeRow.refl _, he⟩, .inr ⟨hn, by rw [hu]; exact hl⟩⟩
theorem upd_nil {outs : List Root} (k : Nat) : ∀ (i : Nat) (R : Root), ([] : List Root)[i]? = some R → LeRoot (outs.getD (k + i) .none) R := fun i R h => by simp at h
theorem upd_none {outs : List Root} {rest : List Root} {k : Nat} (h : ∀ (i : Nat) (R : Root), rest[i]? = some R → LeRoot (outs.getD (k + 1 + i) .none) R) : ∀ (i : Nat) (R : Root), (Root.none :: rest)[i]? = some R → LeRoot (outs.getD (k + i) .none) R := fun i R hi => by
 cases i with
 | zero => simp at hi; subst hi; exact .none _
 | succ i => rw [show k + (i + 1) = k + 1 + i by omega]; exact h i R (by simpa using hi)
theorem upd_box {outs : List Root} {rest : List Root} {row : List RC} {k : Nat} (h0 : outs.getD k .none = .box row) (h : ∀ (i : Nat) (R : Root), rest[i]? = some R → LeRoot (outs.getD (k + 1 + i) .none) R) : ∀ (i : Nat) (R : Root), (Root.box row :: rest)[i]? = some R → LeRoot (outs.getD (k + i) .none) R := fun i R hi => by
 cases i with
 | zero => simp at hi; subst hi; rw [Nat.add_zero, h0]; exact .box (LeRow.refl _)
 | succ i => rw [show k + (i + 1) = k + 1 + i by omega]; exact h i R (by simpa using hi)
theorem upd_of {outs upd : List Root} (h : ∀ (i : Nat) (R : Root), upd[i]? = some R → LeRoot (outs.getD (0 + i) .none) R) : ∀ (k : Nat) (R : Root), upd[k]? = some R → LeRoot (outs.getD k .none) R := fun k R hk => by have := h k R hk; rwa [Nat.zero_add] at this
end Go.Proofs.Ytcpcghnpoekhpaa.A
/- From the model's reading of an argument to plain predicates on worlds: a reading relation a type, put together from parts. No program in sight. -/
set_option linter.unusedSimpArgs false
set_option linter.unusedVariables false
set_option maxRecDepth 100000
set_option maxHeartbeats 4000000
namespace Go.Proofs.Ytcpcghnpoekhpaa
open Go.RowKit Go.ChangeShapes Go.WideShapes Go.ChangeAt
abbrev Rd (α : Type) := World → List Value → α → Prop
def RInt : Rd Int := fun _ cs n => cs = [.int .i64 n] ∧ -9223372036854775808 ≤ n ∧ n ≤ 9223372036854775807
def RStr : Rd ByteArray := fun _ cs s => cs = [.string s] ∧ s.size ≤ 140737488351232
def RPair {α β : Type} (s1 s2 : Nat) (A : Rd α) (B : Rd β) : Rd (α × β) := fun w cs x => ∃ c1 c2, cs = c1 ++ c2 ∧ c1.length = s1 ∧ c2.length = s2 ∧ A w c1 x.1 ∧ B w c2 x.2
def SlAt {α : Type} (sz : Nat) (R : Rd α) (w : World) (a : Option Addr) (xs : List α) : Prop :=
 0 < xs.length → ∃ b off, a = some ⟨b, off, none⟩ ∧ b < w.heap.size ∧ ∀ i (h : i < xs.length), ∃ cs, cs.length = sz ∧ (∀ j, j < sz → w.cell? ⟨b, off + (i * sz + j), none⟩ = cs[j]?) ∧ R w cs xs[i]
def RSl {α : Type} (sz by_ : Nat) (R : Rd α) : Rd (List α) := fun w cs xs => ∃ a cap, cs = [.slice a xs.length cap] ∧ SlAt sz R w a xs ∧ xs.length ≤ cap ∧ cap * by_ ≤ 140737488351232 ∧ cap ≤ maxLen ∧ (a = none → cap = 0)
/-! ### from the model's reading -/
section
variable {H : Type} {enc : TypeId × Value → H} {P : Program} {w : World}
def Lk {α : Type} (enc : TypeId × Value → H) (P : Program) (w : World) (t : TypeId) (R : Rd α) : Prop :=
 ∀ (fuel : Nat) (cs : List Value) (x : DataW H × List MemPlace), DataW.trod enc P w 0 (fun _ => true) true fuel t cs = some x → (x.1.weights P t).all (· ≤ reachBytes) = true → ∃ a, R w cs a
theorem lk_int {t : TypeId} (ht : P.underlying t = some (.int .i64)) : Lk enc P w t RInt := by
 intro fuel cs x h _
 obtain ⟨n, rfl, _, hw⟩ := DataW.trod_int ht h
 refine ⟨n, rfl, ?_⟩
 simpa [Lit.wf, IntKind.min, IntKind.max, IntKind.signed, IntKind.bits] using hw
theorem lk_str {t : TypeId} (ht : P.underlying t = some .string) : Lk enc P w t RStr := by
 intro fuel cs x h hz
 obtain ⟨s, rfl, rfl, _⟩ := DataW.trod_string ht h
 refine ⟨s, rfl, ?_⟩
 have h1 := List.all_eq_true.1 hz s.data.toList.length (by simp [DataW.weights])
 have h2 : s.data.toList.length ≤ reachBytes := of_decide_eq_true h1
 simp only [reachBytes, Array.length_toList] at h2
 exact h2
theorem mem_weightsAll {t : TypeId} {l : List (DataW H)} {d : DataW H} (h : d ∈ l) {n : Nat} (hn : n ∈ d.weights P t) : n ∈ DataW.weightsAll P t l := by
 induction l with
 | nil => cases h
 | cons a l ih =>
  rw [DataW.weightsAll]
  rcases List.mem_cons.1 h with rfl | h
  ·exact List.mem_append.2 (.inl hn)
  ·exact List.mem_append.2 (.inr (ih h))
theorem lk_sl {α : Type} {t e : TypeId} {sz by_ : Nat} {R : Rd α} (ht : P.underlying t = some (.slice e)) (hsz : P.cellsOf e = sz) (hpos : 0 < sz) (hby : P.bytesOf e = by_) (hR : Lk enc P w e R) : Lk enc P w t (RSl sz by_ R) := by
 intro fuel cs x h hz
 subst hsz; subst hby
 rcases Deep.open_slice ht h with ⟨rfl, rfl⟩ | ⟨a, len, cap, m, n, D, Pl, rfl, _, hl, hm, rfl, rfl, hel⟩
 ·exact ⟨[], none, 0, rfl, fun h0 => absurd h0 (by simp), Nat.le_refl _, by simp, by simp, fun _ => rfl⟩
 ·simp only [if_true] at hel hz
  have hz1 := List.all_eq_true.1 hz
  have hbig : m * P.bytesOf e ≤ 140737488351232 := by
   have h1 := hz1 ((len + (m - len)) * P.bytesOf e) (by simp [DataW.weights, ht])
   have h2 : (len + (m - len)) * P.bytesOf e ≤ reachBytes := of_decide_eq_true h1
   rw [show len + (m - len) = m by omega] at h2
   simp only [reachBytes] at h2
   exact h2
  have helem : ∀ i, i < len → ((D i).weights P e).all (· ≤ reachBytes) = true := by
   intro i hi
   refine List.all_eq_true.2 fun k hk => hz1 k ?_
   simp only [DataW.weights, ht, List.mem_cons, List.mem_append]
   exact .inr (.inl (mem_weightsAll (List.mem_map.2 ⟨i, List.mem_range.2 hi, rfl⟩) hk))
  have hx : ∃ xs : List α, xs.length = len ∧ ∀ i (hi : i < xs.length), ∃ cs', w.cells? 0 (a.add (i * P.cellsOf e)) (P.cellsOf e) = some cs' ∧ R w cs' xs[i] := by
   have key : ∀ k, k ≤ len → ∃ xs : List α, xs.length = k ∧ ∀ i (hi : i < xs.length), ∃ cs', w.cells? 0 (a.add (i * P.cellsOf e)) (P.cellsOf e) = some cs' ∧ R w cs' xs[i] := by
    intro k
    induction k with
    | zero => intro _; exact ⟨[], rfl, fun i hi => absurd hi (by simp)⟩
    | succ k ih =>
     intro hk
     obtain ⟨xs, hxl, hxs⟩ := ih (by omega)
     obtain ⟨cs', h1, h2⟩ := hel k (by omega)
     obtain ⟨v, hv⟩ := hR _ _ _ h2 (helem k (by omega))
     refine ⟨xs ++ [v], by simp [hxl], fun i hi => ?_⟩
     by_cases hik : i < xs.length
     ·rw [List.getElem_append_left hik]; exact hxs i hik
     ·have : i = k := by simp at hi; omega
      subst this
      rw [List.getElem_append_right (by omega)]
      simp only [hxl, Nat.sub_self, List.getElem_cons_zero]
      exact ⟨cs', h1, hv⟩
   exact key len (Nat.le_refl _)
  obtain ⟨xs, hxl, hxs⟩ := hx
  subst hxl
  refine ⟨xs, some a, m, rfl, fun h0 => ?_, hl, hbig, hm, fun h => by cases h⟩
  obtain ⟨cs0, h00, _⟩ := hxs 0 h0
  have hb := World.cells?_block h00 hpos
  obtain ⟨b, off, spot⟩ := a
  have hspot : spot = none := by
   obtain ⟨_, hcl, hcc⟩ := World.cells?_some h00
   have h1 := hcc 0 (by omega)
   rw [List.getElem?_eq_getElem (by omega)] at h1
   have := World.cell?_spot h1
   simpa [Addr.add] using this
  subst hspot
  refine ⟨b, off, rfl, by simpa [Addr.add_lit] using hb, fun i hi => ?_⟩
  obtain ⟨cs', h1, h2⟩ := hxs i hi
  obtain ⟨_, hcl, hcc⟩ := World.cells?_some h1
  refine ⟨cs', hcl, fun j hj => ?_, h2⟩
  have := hcc j hj
  rw [Addr.add_lit, Addr.add_lit] at this
  rw [← this, Nat.add_assoc]
end
end Go.Proofs.Ytcpcghnpoekhpaa
/- The ghost machine, part 34: from what an argument reads as9 to the machine's cells. -/
set_option linter.unusedSimpArgs false
set_option linter.unusedVariables false
set_option maxRecDepth 100000
set_option maxHeartbeats 4000000
namespace Go.Proofs.Ytcpcghnpoekhpaa.A
open Go
def RdC {α : Type} (R : Rd α) (f : α → List C) : Prop :=
 ∀ (w : World) (cs : List Value) (x : α), R w cs x → cs.length = (f x).length ∧ ∀ k (h : k < cs.length) (h2 : k < (f x).length), CRep w (fun b => b < w.heap.size) cs[k] (f x)[k]
theorem rdc_one {w : World} {S : Nat → Prop} {v : Value} {c : C} (h : CRep w S v c) : [v].length = [c].length ∧ ∀ k (h : k < [v].length) (h2 : k < [c].length), CRep w S [v][k] [c][k] :=
 ⟨rfl, fun k hk hk2 => by
  have hk' : k < 1 := hk
  obtain rfl : k = 0 := by omega
  exact h⟩
theorem rdc_int : RdC RInt fun n => [vI n] := by rintro w cs n ⟨rfl, _⟩; exact rdc_one (.val rfl)
theorem rdc_str : RdC RStr fun s => [vS s] := by rintro w cs s ⟨rfl, _⟩; exact rdc_one (.val rfl)
theorem rdc_pair {α β : Type} {s1 s2 : Nat} {A : Rd α} {B : Rd β} {f : α → List C} {g : β → List C} (ha : RdC A f) (hb : RdC B g) : RdC (RPair s1 s2 A B) fun x => f x.1 ++ g x.2 := by
 rintro w cs x ⟨c1, c2, rfl, h1, h2, h3, h4⟩
 obtain ⟨l1, k1⟩ := ha w c1 x.1 h3
 obtain ⟨l2, k2⟩ := hb w c2 x.2 h4
 refine ⟨by rw [List.length_append, List.length_append, l1, l2], fun k hk hk2 => ?_⟩
 by_cases hlt : k < c1.length
 ·rw [List.getElem_append_left hlt, List.getElem_append_left (by omega)]
  exact k1 k hlt (by omega)
 ·have e1 : k < (c1 ++ c2).length := hk
  have e2 : k < (f x.1 ++ g x.2).length := hk2
  simp only [List.length_append] at e1 e2
  rw [List.getElem_append_right (by omega), List.getElem_append_right (by omega)]
  simp only [l1]
  exact k2 _ (by omega) (by omega)
theorem flat_cells {α : Type} {R : Rd α} {f : α → List C} {sz : Nat} (hR : RdC R f) (hsz : ∀ x, (f x).length = sz) {w : World} {b : Nat} :
    ∀ (xs : List α) (off : Nat), (∀ i (h : i < xs.length), ∃ cs : List Value, cs.length = sz ∧ (∀ j, j < sz → w.cell? ⟨b, off + (i * sz + j), none⟩ = cs[j]?) ∧ R w cs xs[i]) →
      ∀ j (h : j < (xs.flatMap f).length), ∃ v, w.cell? ⟨b, off + j, none⟩ = some v ∧ CRep w (fun b => b < w.heap.size) v (xs.flatMap f)[j] := by
  intro xs
  induction xs with
  | nil => intro off _ j h; exact absurd h (by simp)
  | cons x xs ih =>
    intro off hc j hj
    obtain ⟨cs, c1, c2, c3⟩ := hc 0 (by simp)
    obtain ⟨l1, k1⟩ := hR w cs x c3
    have hfl : (x :: xs).flatMap f = f x ++ xs.flatMap f := List.flatMap_cons ..
    have hj2 : j < (f x ++ xs.flatMap f).length := by rw [← hfl]; exact hj
    have hx := hsz x
    by_cases hlt : j < sz
    · have hjc : j < cs.length := by omega
      have h3 := c2 j hlt
      rw [Nat.zero_mul, Nat.zero_add, List.getElem?_eq_getElem hjc] at h3
      refine ⟨cs[j], h3, ?_⟩
      have e1 : ((x :: xs).flatMap f)[j] = (f x)[j]'(by omega) := by
        simp only [hfl]; rw [List.getElem_append_left (by omega)]
      rw [e1]
      exact k1 j hjc (by omega)
    · simp only [List.length_append] at hj2
      obtain ⟨v, v1, v2⟩ := ih (off + sz) (fun i hi => by
        obtain ⟨cs, d1, d2, d3⟩ := hc (i + 1) (by simp; omega)
        refine ⟨cs, d1, fun j hj => ?_, by simpa using d3⟩
        have := d2 j hj
        rw [Nat.add_mul, Nat.one_mul] at this
        rw [← this]; congr 2; omega) (j - sz) (by omega)
      refine ⟨v, ?_, ?_⟩
      · rw [← v1]; congr 2; omega
      · have e1 : ((x :: xs).flatMap f)[j] = (xs.flatMap f)[j - sz]'(by omega) := by
          simp only [hfl]; rw [List.getElem_append_right (by omega)]; simp only [hx]
        rw [e1]; exact v2
theorem crep_rdsl {α : Type} {R : Rd α} {f : α → List C} {sz : Nat} (hR : RdC R f) (hsz : ∀ x, (f x).length = sz) {w : World} {a : Option Addr} {cap : Nat} {xs : List α} (hs : SlAt sz R w a xs) (hle : xs.length ≤ cap) :
  CRep w (fun b => b < w.heap.size) (.slice a xs.length cap) (.sl xs.length (xs.flatMap f)) := by
 by_cases h0 : xs.length = 0
 ·have : xs = [] := List.eq_nil_of_length_eq_zero h0
  subst this
  exact .sl0
 ·obtain ⟨b, off, rfl, hlt, hc⟩ := hs (by omega)
  have key := flat_cells hR hsz xs off hc
  refine .sl (fun j => (w.cell? ⟨b, off + j, none⟩).getD undef) hlt hle (fun j hj => ?_) (fun j hj => ?_)
  ·obtain ⟨v, v1, _⟩ := key j hj
   rw [v1]; rfl
  ·obtain ⟨v, v1, v2⟩ := key j hj
   show CRep w _ ((w.cell? ⟨b, off + j, none⟩).getD undef) _
   rw [v1]; exact v2
theorem rdc_sl {α : Type} {R : Rd α} {f : α → List C} {sz by_ : Nat} (hR : RdC R f) (hsz : ∀ x, (f x).length = sz) : RdC (RSl sz by_ R) fun xs => [.sl xs.length (xs.flatMap f)] := by
 rintro w cs xs ⟨a, cap, rfl, hs, hle, _⟩
 exact rdc_one (crep_rdsl hR hsz hs hle)
end Go.Proofs.Ytcpcghnpoekhpaa.A
/- The ghost machine: a nil slice is an empty one, too; contracts at such arguments. -/
set_option linter.unusedSimpArgs false
set_option linter.unusedVariables false
set_option maxRecDepth 100000
set_option maxHeartbeats 4000000
namespace Go.Proofs.Ytcpcghnpoekhpaa.A
open Go
inductive LeC : C → C → Prop
 | refl {c : C} : LeC c c
 | nil : LeC .nil (.sl 0 [])
 | sl {n : Nat} {cs ds : List C} : cs.length = ds.length → (∀ i (h1 : i < cs.length) (h2 : i < ds.length), LeC cs[i] ds[i]) → LeC (.sl n cs) (.sl n ds)
theorem CRep.le {w : World} {S : Nat → Prop} {c d : C} (h : LeC c d) : ∀ {v : Value}, CRep w S v c → CRep w S v d := by
 induction h with
 | refl => exact fun h => h
 | nil => intro v h; cases h; exact .sl0
 | @sl n cs ds hl _ ih =>
  intro v h
  cases h with
  | sl0 =>
   have : ds = [] := List.eq_nil_of_length_eq_zero hl.symm
   subst this; exact .sl0
  | sl vs hs hn hc hk =>
   refine .sl vs hs hn (fun j hj => hc j (by omega)) fun j hj => ?_
   exact ih j (by omega) hj (hk j (by omega))
def LeCs (cs ds : List C) : Prop := cs.length = ds.length ∧ ∀ i (h1 : i < cs.length) (h2 : i < ds.length), LeC cs[i] ds[i]
theorem LeCs.refl (cs : List C) : LeCs cs cs := ⟨rfl, fun _ _ _ => .refl⟩
theorem LeCs.le {cs ds : List C} (h : LeCs cs ds) (n : Nat) : LeC (.sl n cs) (.sl n ds) := .sl h.1 h.2
theorem LeCs.cons {c d : C} {cs ds : List C} (h : LeC c d) (hs : LeCs cs ds) : LeCs (c :: cs) (d :: ds) := ⟨by simp [hs.1], fun i h1 h2 => by
 cases i with
 | zero => exact h
 | succ i => exact hs.2 i (by simpa using h1) (by simpa using h2)⟩
theorem LeCs.app {a b cs ds : List C} (h : LeCs a b) (hs : LeCs cs ds) : LeCs (a ++ cs) (b ++ ds) := ⟨by simp [h.1, hs.1], fun i h1 h2 => by
 have e := h.1
 rw [List.getElem_append, List.getElem_append]
 split
 ·rename_i hi
  rw [dif_pos (by omega)]
  exact h.2 i hi (by omega)
 ·rename_i hi
  rw [dif_neg (by omega)]
  have := hs.2 (i - a.length) (by simp at h1; omega) (by simp at h2; omega)
  simpa only [e] using this⟩
inductive LeA : Arg → Arg → Prop
 | refl {a : Arg} : LeA a a
 | v {b : Bool} {cs ds : List C} : LeCs cs ds → LeA (.v b cs) (.v b ds)
theorem LeA.root {a b : Arg} (h : LeA a b) : a.asRoot = b.asRoot := by cases h <;> rfl
theorem LeA.rep {w : World} {S : Nat → Prop} {bx : Nat → Nat} {k : Nat} {v : Value} {a b : Arg} (h : LeA a b) (ha : ArgRep w S bx k v a) : ArgRep w S bx k v b := by
 cases h with
 | refl => exact ha
 | v h =>
  rename_i t cs ds
  cases t with
  | false =>
   obtain ⟨c, rfl, hc⟩ := ha
   have hl : ds.length = 1 := by rw [← h.1]; rfl
   match ds, hl with
   | [d], _ => exact ⟨d, rfl, hc.le (h.2 0 (by simp) (by simp))⟩
  | true =>
   obtain ⟨us, e1, e2, e3⟩ := ha
   exact ⟨us, e1, by rw [e2, h.1], fun k h1 h2 => (e3 k (by rw [h.1]; exact h1) h2).le (h.2 k (by rw [h.1]; exact h1) h1)⟩
inductive LeAs : List Arg → List Arg → Prop
 | nil : LeAs [] []
 | cons {a b : Arg} {as' bs : List Arg} : LeA a b → LeAs as' bs → LeAs (a :: as') (b :: bs)
theorem LeAs.len {x y : List Arg} (h : LeAs x y) : x.length = y.length := by induction h with | nil => rfl | cons _ _ ih => simp [ih]
theorem LeAs.roots {x y : List Arg} (h : LeAs x y) : x.map Arg.asRoot = y.map Arg.asRoot := by induction h with | nil => rfl | cons h1 _ ih => rw [List.map_cons, List.map_cons, h1.root, ih]
theorem LeA.real {a b : Arg} (h : LeA a b) : a.real = b.real := by cases h <;> rfl
theorem LeAs.reals {x y : List Arg} (h : LeAs x y) : A.reals x = A.reals y := by
 induction h with
 | nil => rfl
 | @cons a b as' bs h1 _ ih =>
  have e := h1.real
  unfold A.reals at ih ⊢
  by_cases hb : b.real = true
  ·rw [List.filter_cons_of_pos (by rw [e]; exact hb), List.filter_cons_of_pos hb, List.length_cons, List.length_cons, ih]
  ·rw [List.filter_cons_of_neg (by rw [e]; exact hb), List.filter_cons_of_neg hb, ih]
theorem LeAs.at {x y : List Arg} (h : LeAs x y) : ∀ (i : Nat) (h1 : i < x.length) (h2 : i < y.length), LeA x[i] y[i] := by
 induction h with
 | nil => intro i h1; simp at h1
 | cons h1 _ ih =>
  intro i h2 h3
  cases i with
  | zero => exact h1
  | succ i => exact ih i (by simpa using h2) (by simpa using h3)
end Go.Proofs.Ytcpcghnpoekhpaa.A
/- Lists as9 cells. -/
set_option linter.unusedSimpArgs false
set_option linter.unusedVariables false
set_option maxRecDepth 100000
set_option maxHeartbeats 4000000
namespace Go.Proofs.Ytcpcghnpoekhpaa.A
open Go
/-! ### lists of strings, of integers, of bools -/
def sC (l : List ByteArray) : List C := l.map vS
def nS (l : List ByteArray) : Nat := l.foldr (fun _ n => n + 1) 0
theorem nS_eq (l : List ByteArray) : nS l = l.length := by unfold nS; induction l with | nil => rfl | cons x l ih => rw [List.foldr_cons, ih]; rfl
abbrev sAt (l : List ByteArray) (k : Nat) : ByteArray := l.getD k ByteArray.empty
theorem map_at {α : Type} (g : α → C) (l : List α) (k : Nat) : cellAt (l.map g) k = match l[k]? with | some x => g x | none => .nil := by
 unfold cellAt
 rw [List.getD_eq_getElem?_getD, List.getElem?_map]
 cases l[k]? <;> rfl
theorem gs_sC (l : List ByteArray) (k : Nat) : gs (cellAt (sC l) k) = sAt l k := by
 unfold sC; rw [map_at, sAt, List.getD_eq_getElem?_getD]
 cases l[k]? <;> rfl
theorem sC_len (l : List ByteArray) : (sC l).length = nS l := by simp [sC, nS_eq]
theorem ok_sC {l : List ByteArray} {k : Nat} (h : k < l.length) : okK .str (cellAt (sC l) k) := by
 unfold sC; rw [map_at, List.getElem?_eq_getElem h]; exact ⟨_, rfl⟩
theorem sC_snoc (l : List ByteArray) (s : ByteArray) : sC l ++ [vS s] = sC (l ++ [s]) := by simp [sC]
theorem sC_app (l r : List ByteArray) : sC l ++ sC r = sC (l ++ r) := by simp [sC]
theorem sC_ext (l : List ByteArray) (a b : Nat) : extC (sC l) a b = sC ((l.take b).drop a) := by simp [sC, extC, List.map_take, List.map_drop]
theorem vals_map {α : Type} (g : α → Value) (l : List α) : ∀ c ∈ l.map (fun x => C.val (g x)), ∃ v, c = .val v := by
 intro c h; obtain ⟨x, _, rfl⟩ := List.mem_map.1 h; exact ⟨_, rfl⟩
theorem sC_vals (l : List ByteArray) : ∀ c ∈ sC l, ∃ v, c = .val v := vals_map Value.string l
def hasS (l : List ByteArray) (w : ByteArray) : Bool := l.any fun x => decide (x = w)
theorem hasS_iff {l : List ByteArray} {w : ByteArray} : hasS l w = true ↔ w ∈ l := by
 unfold hasS; rw [List.any_eq_true]; simp
theorem hasS_not {l : List ByteArray} {w : ByteArray} : hasS l w = false ↔ w ∉ l := by
 rw [← hasS_iff]; simp
theorem hasS_step (l : List ByteArray) {w : ByteArray} (i : Int) (h0 : 0 ≤ i) (h : i < nS l) : hasS (l.drop i.toNat) w = (decide (sAt l i.toNat = w) || hasS (l.drop (i + 1).toNat) w) := by
 have hn := nS_eq l
 have e : (i + 1).toNat = i.toNat + 1 := by omega
 have e2 : l.drop i.toNat = l.getD i.toNat ByteArray.empty :: l.drop (i.toNat + 1) := by
  rw [List.drop_eq_getElem_cons (by omega), List.getD_eq_getElem?_getD, List.getElem?_eq_getElem (by omega)]; rfl
 rw [e, e2]; unfold hasS; rw [List.any_cons]
theorem hasS_end (l : List ByteArray) {w : ByteArray} (i : Int) (h : ¬ i < nS l) : hasS (l.drop i.toNat) w = false := by
 have hn := nS_eq l
 rw [List.drop_eq_nil_of_le (by omega)]; rfl
/-! ### slices of slices -/
/-! ### from place to place -/
theorem getD_mem {α : Type} {l : List α} {k : Nat} (d : α) (h : k < l.length) : l.getD k d ∈ l := by
 rw [List.getD_eq_getElem?_getD, List.getElem?_eq_getElem h]; exact List.getElem_mem h
theorem r1b {a b : Bool} (h : a = b) : ret1 (.st (vB a)) = ⟨false, [(false, [.st (.val (.bool b))])]⟩ := by rw [h]; rfl
theorem r1i {a b : Int} (h : a = b) : ret1 (.st (vI a)) = ⟨false, [(false, [.st (.val (.int .i64 b))])]⟩ := by rw [h]; rfl
end Go.Proofs.Ytcpcghnpoekhpaa.A
/- Lists as9 cells: back from cells; from place to place. -/
set_option linter.unusedSimpArgs false
set_option linter.unusedVariables false
set_option maxRecDepth 100000
set_option maxHeartbeats 4000000
namespace Go.Proofs.Ytcpcghnpoekhpaa.A
open Go
def strsOf (cs : List C) : List ByteArray := cs.map gs
theorem strsOf_sC (l : List ByteArray) : strsOf (sC l) = l := by
 unfold strsOf sC; rw [List.map_map]
 conv => rhs; rw [← List.map_id l]
 rfl
variable {P : Program} {T : TT} {Q : Exit → St → Prop} {st : St}
theorem aw_retz {j : J} (hj : j = std P T) (ks : List (Nat × KS)) {st1 : St} (h : canon T j ks [] st = some st1) (k : Q .ret st1) : Aw P T .ret Q st := forgetj hj ks [] h (aw_ret k)
theorem r1sl {l : List ByteArray} {n : Nat} {cs : List C} (h1 : n = nS l) (h2 : cs = sC l) : ret1 (.st (.sl (nS l) (sC l))) = ⟨false, [(false, [.st (.sl n cs)])]⟩ := by rw [h1, h2]; rfl
/-! ### from place to place -/
theorem sAt_mem (l : List ByteArray) (i : Int) (h0 : 0 ≤ i) (h : i < nS l) : sAt l i.toNat ∈ l := by
 have hn := nS_eq l
 exact getD_mem _ (by omega)
end Go.Proofs.Ytcpcghnpoekhpaa.A
/- Words in order: taken over from Wl1 and DrW, without Sort and Compact. -/
set_option linter.unusedSimpArgs false
set_option linter.unusedVariables false
set_option maxRecDepth 100000
set_option maxHeartbeats 4000000
namespace Go.Proofs.Ytcpcghnpoekhpaa.A
open Go
def bL (s : ByteArray) : List UInt8 := s.data.toList
def ofL (l : List UInt8) : ByteArray := ⟨l.toArray⟩
theorem ofL_bL (s : ByteArray) : ofL (bL s) = s := rfl
def ltS (a b : ByteArray) : Bool := decide (bL a < bL b)
theorem bL_inj {a b : ByteArray} (h : bL a = bL b) : a = b := by rw [← ofL_bL a, ← ofL_bL b, h]
theorem ltS_iff {a b : ByteArray} : ltS a b = true ↔ bL a < bL b := by unfold ltS; simp
theorem ltS_no {a b : ByteArray} : ltS a b = false ↔ bL b ≤ bL a := by unfold ltS; simp
theorem ltS_trans {a b c : ByteArray} (h : ltS a b = true) (k : ltS b c = true) : ltS a c = true := ltS_iff.2 (List.lt_trans (ltS_iff.1 h) (ltS_iff.1 k))
theorem ltS_irr (a : ByteArray) : ltS a a = false := ltS_no.2 (List.le_refl _)
theorem ltS_tri {a b : ByteArray} (h : ltS a b = false) (hn : a ≠ b) : ltS b a = true := by
 cases h2 : ltS b a with
 | true => rfl
 | false => exact absurd (bL_inj (List.le_antisymm (ltS_no.1 h2) (ltS_no.1 h))) hn
abbrev Set' (l : List ByteArray) : Prop := l.Pairwise fun a b => ltS a b = true
theorem set_uniq {l m : List ByteArray} (hl : Set' l) (hm : Set' m) (h : ∀ x, x ∈ l ↔ x ∈ m) : l = m := by
 induction l generalizing m with
 | nil =>
  cases m with
  | nil => rfl
  | cons y m => exact absurd ((h y).2 (List.mem_cons_self ..)) (by simp)
 | cons x l ih =>
  cases m with
  | nil => exact absurd ((h x).1 (List.mem_cons_self ..)) (by simp)
  | cons y m =>
   obtain ⟨h1, h2⟩ := List.pairwise_cons.1 hl
   obtain ⟨h3, h4⟩ := List.pairwise_cons.1 hm
   have e : x = y := by
    rcases List.mem_cons.1 ((h x).1 (List.mem_cons_self ..)) with e | e
    ·exact e
    rcases List.mem_cons.1 ((h y).2 (List.mem_cons_self ..)) with e' | e'
    ·exact e'.symm
    have := ltS_trans (h1 y e') (h3 x e)
    rw [ltS_irr] at this; cases this
   subst e
   have hx : x ∉ l := fun hh => by have := h1 x hh; rw [ltS_irr] at this; cases this
   have hy : x ∉ m := fun hh => by have := h3 x hh; rw [ltS_irr] at this; cases this
   congr 1
   refine ih h2 h4 fun z => ⟨fun hz => ?_, fun hz => ?_⟩
   ·rcases List.mem_cons.1 ((h z).1 (List.mem_cons_of_mem _ hz)) with e | e
    ·subst e; exact absurd hz hx
    ·exact e
   ·rcases List.mem_cons.1 ((h z).2 (List.mem_cons_of_mem _ hz)) with e | e
    ·subst e; exact absurd hz hy
    ·exact e
def putS : List ByteArray → ByteArray → List ByteArray
 | [], w => [w]
 | x :: l, w => if w = x then x :: l else if ltS w x = true then w :: x :: l else x :: putS l w
theorem mem_putS {l : List ByteArray} {w x : ByteArray} : x ∈ putS l w ↔ x ∈ l ∨ x = w := by
 induction l with
 | nil => simp [putS]
 | cons y l ih =>
  unfold putS
  split
  ·rename_i h; subst h
   exact ⟨.inl, fun h => h.elim id fun e => by rw [e]; exact List.mem_cons_self ..⟩
  ·split
   ·simp only [List.mem_cons]
    constructor
    ·rintro (h | h | h) <;> simp [h]
    ·rintro ((h | h) | h) <;> simp [h]
   ·simp only [List.mem_cons, ih]
    constructor
    ·rintro (h | h | h) <;> simp [h]
    ·rintro ((h | h) | h) <;> simp [h]
theorem putS_set {l : List ByteArray} {w : ByteArray} (h : Set' l) : Set' (putS l w) := by
 induction l with
 | nil => simp [putS, Set']
 | cons y l ih =>
  obtain ⟨h1, h2⟩ := List.pairwise_cons.1 h
  unfold putS
  split
  ·exact h
  ·rename_i hn
   split
   ·rename_i hlt
    refine List.pairwise_cons.2 ⟨fun z hz => ?_, h⟩
    rcases List.mem_cons.1 hz with e | e
    ·rw [e]; exact hlt
    ·exact ltS_trans hlt (h1 z e)
   ·rename_i hlt
    refine List.pairwise_cons.2 ⟨fun z hz => ?_, ih h2⟩
    rcases mem_putS.1 hz with e | e
    ·exact h1 z e
    ·rw [e]; exact ltS_tri (by simpa using hlt) hn
theorem putS_in {l : List ByteArray} {w : ByteArray} (h : Set' l) (hw : w ∈ l) : putS l w = l :=
 set_uniq (putS_set h) h fun x => by rw [mem_putS]; exact ⟨fun k => k.elim id fun e => e ▸ hw, .inl⟩
theorem putS_at {l : List ByteArray} {w : ByteArray} (h : Set' l) (hw : w ∉ l) {k : Nat} (hk : k ≤ l.length) (h1 : k = 0 ∨ ltS w (sAt l (k - 1)) = false) (h2 : ∀ i, k ≤ i → i < l.length → ltS w (sAt l i) = true) :
  l.take k ++ [w] ++ l.drop k = putS l w := by
 have hg : ∀ i (hi : i < l.length), sAt l i = l[i] := fun i hi => by
  rw [sAt, List.getD_eq_getElem?_getD, List.getElem?_eq_getElem hi]; rfl
 refine set_uniq ?_ (putS_set h) fun x => ?_
 ·have hpair : (l.take k ++ l.drop k).Pairwise fun a b => ltS a b = true := by rw [List.take_append_drop]; exact h
  obtain ⟨p1, p2, p3⟩ := List.pairwise_append.1 hpair
  rw [List.append_assoc]
  have hlow : ∀ x ∈ l.take k, ltS x w = true := fun x hx => by
   obtain ⟨i, hi, rfl⟩ := List.getElem_of_mem hx
   have hi2 : i < k := by rw [List.length_take] at hi; omega
   rw [List.getElem_take]
   rcases h1 with h1 | h1
   ·omega
   have hk1 : k - 1 < l.length := by omega
   rw [hg _ hk1] at h1
   have hlast : ltS l[k - 1] w = true := ltS_tri h1 fun e => hw (e ▸ List.getElem_mem hk1)
   by_cases e : i = k - 1
   ·subst e; exact hlast
   ·exact ltS_trans (List.pairwise_iff_getElem.1 h i (k - 1) (by omega) hk1 (by omega)) hlast
  have hhigh : ∀ x ∈ l.drop k, ltS w x = true := fun x hx => by
   obtain ⟨i, hi, rfl⟩ := List.getElem_of_mem hx
   rw [List.getElem_drop]
   have hi2 : k + i < l.length := by rw [List.length_drop] at hi; omega
   have := h2 (k + i) (by omega) hi2
   rw [hg _ hi2] at this
   exact this
  refine List.pairwise_append.2 ⟨p1, List.pairwise_append.2 ⟨by simp, p2, fun a ha b hb => ?_⟩, fun a ha b hb => ?_⟩
  ·rw [List.mem_singleton.1 ha]; exact hhigh b hb
  ·rcases List.mem_append.1 hb with e | e
   ·rw [List.mem_singleton.1 e]; exact hlow a ha
   ·exact p3 a ha b e
 ·rw [mem_putS]
  simp only [List.mem_append, List.mem_singleton]
  have : x ∈ l ↔ x ∈ l.take k ∨ x ∈ l.drop k := by rw [← List.mem_append, List.take_append_drop]
  rw [this]
  constructor
  ·rintro ((h | h) | h) <;> simp [h]
  ·rintro ((h | h) | h) <;> simp [h]
/-! ### the order, byte by byte -/
theorem lt_at : ∀ (x y : List UInt8) (i : Nat), (∀ n, n < i → x.getD n 0 = y.getD n 0) → i ≤ x.length → i ≤ y.length → (decide (x < y) = decide (x.drop i < y.drop i))
 | _, _, 0, _, _, _ => rfl
 | [], y, i + 1, _, h, _ => by simp at h
 | a :: x, [], i + 1, _, _, h => by simp at h
 | a :: x, b :: y, i + 1, h, h1, h2 => by
  have e : a = b := by simpa using h 0 (by omega)
  subst e
  rw [List.drop_succ_cons, List.drop_succ_cons, ← lt_at x y i (fun n hn => by simpa using h (n + 1) (by omega)) (by simpa using h1) (by simpa using h2)]
  simp
theorem lt_head {a b : UInt8} {x y : List UInt8} (h : a ≠ b) : decide (a :: x < b :: y) = decide (a < b) := by
 simp [List.cons_lt_cons_iff, h]
theorem bt_bL (s : ByteArray) (n : Nat) : bt s n = ((bL s).getD n 0).toNat := bt_data s n
theorem size_bL (s : ByteArray) : (bL s).length = s.size := by simp [bL]
theorem ltS_at {a b : ByteArray} {i : Int} (h0 : 0 ≤ i) (h1 : i < a.size) (h2 : i < b.size) (h : ∀ n : Nat, (n : Int) < i → bt a n = bt b n) (hn : ¬ satB a i.toNat = satB b i.toNat) : ltS a b = decide (satB a i.toNat < satB b i.toNat) := by
 unfold ltS satB at *
 have ha := size_bL a; have hb := size_bL b
 rw [lt_at (bL a) (bL b) i.toNat (fun n hn => UInt8.toNat_inj.1 (by rw [← bt_bL, ← bt_bL]; exact h n (by omega))) (by omega) (by omega)]
 rw [bt_bL, bt_bL] at hn ⊢
 rw [List.drop_eq_getElem_cons (show i.toNat < (bL a).length by omega), List.drop_eq_getElem_cons (show i.toNat < (bL b).length by omega)]
 rw [List.getD_eq_getElem?_getD, List.getD_eq_getElem?_getD, List.getElem?_eq_getElem (show i.toNat < (bL a).length by omega), List.getElem?_eq_getElem (show i.toNat < (bL b).length by omega)] at hn ⊢
 simp only [Option.getD_some] at hn ⊢
 rw [lt_head (fun e => hn (by rw [e]))]
 congr 1
 rw [UInt8.lt_iff_toNat_lt]
 exact propext ⟨fun h => by omega, fun h => by omega⟩
theorem ltS_fin {a b : ByteArray} {i : Int} (h0 : 0 ≤ i) (h1 : i ≤ a.size) (h2 : i ≤ b.size) (h3 : ¬ i < a.size ∨ ¬ i < b.size) (h : ∀ n : Nat, (n : Int) < i → bt a n = bt b n) : ltS a b = decide ((a.size : Int) < b.size) := by
 unfold ltS
 have ha := size_bL a; have hb := size_bL b
 rw [lt_at (bL a) (bL b) i.toNat (fun n hn => UInt8.toNat_inj.1 (by rw [← bt_bL, ← bt_bL]; exact h n (by omega))) (by omega) (by omega)]
 by_cases e : (a.size : Int) < b.size
 ·rw [List.drop_eq_nil_of_le (by omega), List.drop_eq_getElem_cons (show i.toNat < (bL b).length by omega)]
  rw [decide_eq_decide]
  exact ⟨fun _ => e, fun _ => List.nil_lt_cons _ _⟩
 ·rw [List.drop_eq_nil_of_le (show (bL b).length ≤ i.toNat by omega)]
  simp [e]
end Go.Proofs.Ytcpcghnpoekhpaa.A
/- The ghost machine: a frame walked piece by piece, where a piece may be a range over a function. -/
set_option linter.unusedSimpArgs false
set_option linter.unusedVariables false
set_option maxRecDepth 100000
set_option maxHeartbeats 4000000
namespace Go.Proofs.Ytcpcghnpoekhpaa.A
open Go Go.RowKit
variable {P : Program} {T : TT} {w w0 w' : World} {S S0 S' : Nat → Prop} {F : Fr} {st st' : St} {bx bx' : Nat → Nat} {ph ph' : Nat → Nat → Pv} {a a' : Act}
theorem Rel.back {df : List Deferred} (h : Rel T w0 S0 F st a w S bx ph) (h' : Rel T w S ⟨fun b => ∃ t κ, owns st.r bx ph t κ b, F.pin, df⟩ st' a' w' S' bx' ph') : Rel T w0 S0 { F with df := df } st' a' w' S' bx' ph' := by
 refine ⟨h'.size, h'.rsize, h'.defers, h'.heap, fun t κ b hb => ?_, h'.slot, fun b hb => h'.keep b (h.keep b hb), fun b hb => ?_, ?_⟩
 ·rcases h'.mine t κ b hb with q | ⟨t', κ', q⟩
  ·exact .inl (Nat.le_trans h.chg.size q)
  ·exact h.mine _ _ _ q
 ·rcases h'.new b hb with q | q | ⟨t', κ', q⟩
  ·exact h.new b q
  ·exact .inr (.inl (Nat.le_trans h.chg.size q))
  ·exact .inr (h.mine _ _ _ q)
 ·have k := h'.chg
  refine ⟨k.os.trans h.chg.os, k.tape.trans h.chg.tape, k.output.trans h.chg.output, Nat.le_trans h.chg.size k.size, fun b hb hn => ?_⟩
  rw [k.block b (Nat.lt_of_lt_of_le hb h.chg.size) fun ⟨t, κ, q⟩ => ?_]
  ·exact h.chg.block b hb hn
  ·rcases h.mine t κ b q with q | q
   ·omega
   ·exact hn q
theorem Rel.here (h : Rel T w0 S0 F st a w S bx ph) : Rel T w S ⟨fun b => ∃ t κ, owns st.r bx ph t κ b, F.pin, F.df⟩ st a w S bx ph :=
 ⟨h.size, h.rsize, h.defers, h.heap, fun t κ b hb => .inr ⟨t, κ, hb⟩, h.slot, fun _ h => h, fun _ h => .inl h, Chg.refl _ _⟩
/-! ### two boxes, and nothing else that owns -/
def at2 {α : Type} (p q : Nat) (f : Nat → α) (t : Nat) : α := f (if t = 0 then p else q)
structure Two (r : List Root) (p q : Nat) (R0 R1 : Root) : Prop where
 ne : p ≠ q
 all : ∀ t, r.getD t .none = if t = p then R0 else if t = q then R1 else .none
theorem two_get (R0 R1 : Root) (t : Nat) : [R0, R1].getD t .none = if t = 0 then R0 else if t = 1 then R1 else .none := by
 match t with
 | 0 => rfl
 | 1 => rfl
 | t + 2 => rw [if_neg (by omega), if_neg (by omega)]; rfl
variable {r : List Root} {p q : Nat} {R0 R1 R0' R1' : Root}
theorem owns_of_get {r r' : List Root} {t t' : Nat} {bx bx' : Nat → Nat} {ph ph' : Nat → Nat → Pv} {κ : Option Nat} {b : Nat} (h1 : r.getD t .none = r'.getD t' .none) (h2 : bx t = bx' t') (h3 : ph t = ph' t') (h : owns r bx ph t κ b) : owns r' bx' ph' t' κ b := by
 cases κ with
 | none => unfold owns at h ⊢; rw [h1, h2] at h; exact h
 | some o => unfold owns at h ⊢; rw [h1, h3] at h; exact h
theorem owns_two (h : Two r p q R0 R1) {t : Nat} {κ : Option Nat} {b : Nat} (hb : owns [R0, R1] (at2 p q bx) (at2 p q ph) t κ b) : owns r bx ph (if t = 0 then p else q) κ b ∧ t < 2 := by
 have hlt : t < 2 := by
  by_cases h2 : t < 2
  ·exact h2
  ·exact (owns_none _ _ t (by rw [two_get, if_neg (by omega), if_neg (by omega)]) _ _ hb).elim
 refine ⟨owns_of_get (bx := at2 p q bx) (ph := at2 p q ph) ?_ rfl rfl hb, hlt⟩
 rw [two_get, h.all]
 have := h.ne
 by_cases h0 : t = 0
 ·simp [h0]
 ·have h1 : t = 1 := by omega
  subst h1
  simp [Ne.symm this]
theorem owns_untwo (h : Two r p q R0 R1) {bx2 : Nat → Nat} {ph2 : Nat → Nat → Pv} (hb : bx2 p = bx 0 ∧ bx2 q = bx 1) (hp : ph2 p = ph 0 ∧ ph2 q = ph 1) {t : Nat} {κ : Option Nat} {b : Nat} (ho : owns r bx2 ph2 t κ b) : (t = p ∧ owns [R0, R1] bx ph 0 κ b) ∨ (t = q ∧ owns [R0, R1] bx ph 1 κ b) := by
 have hg := h.all t
 by_cases h0 : t = p
 ·rw [if_pos h0] at hg
  exact .inl ⟨h0, owns_of_get (by rw [hg]; rfl) (by rw [h0]; exact hb.1) (by rw [h0]; exact hp.1) ho⟩
 ·rw [if_neg h0] at hg
  by_cases h1 : t = q
  ·rw [if_pos h1] at hg
   exact .inr ⟨h1, owns_of_get (by rw [hg]; rfl) (by rw [h1]; exact hb.2) (by rw [h1]; exact hp.2) ho⟩
  ·rw [if_neg h1] at hg
   exact (owns_none _ _ t hg _ _ ho).elim
theorem Heap.two (h : Heap T w S r bx ph) (h2 : Two r p q R0 R1) : Heap T w S [R0, R1] (at2 p q bx) (at2 p q ph) := by
 refine ⟨fun t => ?_, fun t κ t' κ' b b1 b2 => ?_, fun t κ b b1 => h.free _ _ _ (owns_two h2 b1).1, h.low⟩
 ·rw [two_get]
  have hp := h.root p
  have hq := h.root q
  rw [h2.all, if_pos rfl] at hp
  rw [h2.all, if_neg (Ne.symm h2.ne), if_pos rfl] at hq
  by_cases h0 : t = 0
  ·subst h0; exact hp
  ·by_cases h1 : t = 1
   ·subst h1; exact hq
   ·rw [if_neg h0, if_neg h1]; trivial
 ·obtain ⟨c1, l1⟩ := owns_two h2 b1
  obtain ⟨c2, l2⟩ := owns_two h2 b2
  obtain ⟨e1, e2⟩ := h.inj _ _ _ _ b c1 c2
  have := h2.ne
  exact ⟨by split at e1 <;> split at e1 <;> omega, e2⟩
theorem Heap.untwo (h : Heap T w S [R0, R1] bx ph) (h2 : Two r p q R0 R1) {bx2 : Nat → Nat} {ph2 : Nat → Nat → Pv} (hb : bx2 p = bx 0 ∧ bx2 q = bx 1) (hp : ph2 p = ph 0 ∧ ph2 q = ph 1) : Heap T w S r bx2 ph2 := by
 refine ⟨fun t => ?_, fun t κ t' κ' b b1 b2 => ?_, fun t κ b b1 => ?_, h.low⟩
 ·rw [h2.all]
  by_cases h0 : t = p
  ·rw [if_pos h0, h0, hb.1, hp.1]; exact h.root 0
  ·rw [if_neg h0]
   by_cases h1 : t = q
   ·rw [if_pos h1, h1, hb.2, hp.2]; exact h.root 1
   ·rw [if_neg h1]; trivial
 ·rcases owns_untwo h2 hb hp b1 with ⟨c1, d1⟩ | ⟨c1, d1⟩ <;> rcases owns_untwo h2 hb hp b2 with ⟨c2, d2⟩ | ⟨c2, d2⟩ <;> obtain ⟨e1, e2⟩ := h.inj _ _ _ _ b d1 d2
  ·exact ⟨by omega, e2⟩
  ·exact absurd e1 (by omega)
  ·exact absurd e1 (by omega)
  ·exact ⟨by omega, e2⟩
 ·rcases owns_untwo h2 hb hp b1 with ⟨c1, d1⟩ | ⟨c1, d1⟩ <;> exact h.free _ _ _ d1
theorem Rel.two (h : Rel T w0 S0 F st a w S bx ph) (h2 : Two st.r p q R0 R1) (hp : Hp T (fun _ => False) w S [R0, R1] (at2 p q bx) (at2 p q ph) [R0', R1'] w' S' bx' ph') (h3 : Two st'.r p q R0' R1')
  (hl : st'.s.length = st.s.length) (hr : st'.s.length + 1 ≤ st'.r.length) (ha : a'.tmps.size = a.tmps.size)
  (hs : (∀ v c, CRep w S v c → CRep w' S' v c) → ∀ i, i < st'.s.length → VRep T w' S' st'.r bx (fun t => if t = p then ph' 0 else ph' 1) (a'.tmps.getD i undef) (st'.s.getD i .undef)) :
  Rel T w0 S0 { F with df := a'.defers } st' a' w' S' bx (fun t => if t = p then ph' 0 else ph' 1) := by
 have hb : bx p = bx' 0 ∧ bx q = bx' 1 := ⟨(hp.same 0).symm, (hp.same 1).symm⟩
 have hph : (fun t => if t = p then ph' 0 else ph' 1) p = ph' 0 ∧ (fun t => if t = p then ph' 0 else ph' 1) q = ph' 1 := ⟨if_pos rfl, if_neg (Ne.symm h2.ne)⟩
 have old : ∀ b, (∃ t κ, owns [R0, R1] (at2 p q bx) (at2 p q ph) t κ b) → w0.heap.size ≤ b ∨ F b := fun b ⟨t, κ, q⟩ => h.mine _ _ _ (owns_two h2 q).1
 have hz := h.chg.size
 have hS : ∀ b, S b → w'.heap[b]? = w.heap[b]? := fun b hb => hp.chg.block b (h.heap.low.1 b hb) fun q => by
  rcases q with q | ⟨t, κ, q⟩
  ·exact q
  ·exact (h.heap.free _ _ _ (owns_two h2 q).1).1 hb
 refine ⟨by rw [ha, h.size, hl], ⟨hr, fun t ht => h.rsize.2 t (by omega)⟩, rfl, hp.heap.untwo h3 hb hph, fun t κ b hb' => ?_, hs fun v c hc => hc.frame hS hp.keep, fun b hb' => hp.keep b (h.keep b hb'), fun b hb' => ?_, ?_⟩
 ·have key : ∀ i, owns [R0', R1'] bx' ph' i κ b → w0.heap.size ≤ b ∨ F b := fun i d => by
   rcases hp.mine _ _ _ d with q | q
   ·exact .inl (Nat.le_trans hz q)
   ·exact old b q
  rcases owns_untwo h3 hb hph hb' with ⟨_, d⟩ | ⟨_, d⟩ <;> exact key _ d
 ·rcases hp.new b hb' with q | q | q
  ·exact h.new b q
  ·exact .inr (.inl (Nat.le_trans hz q))
  ·exact .inr (old b q)
 ·have k := hp.chg
  refine ⟨k.os.trans h.chg.os, k.tape.trans h.chg.tape, k.output.trans h.chg.output, Nat.le_trans hz k.size, fun b hb' hn => ?_⟩
  rw [k.block b (Nat.lt_of_lt_of_le hb' hz) fun q => ?_]
  ·exact h.chg.block b hb' hn
  ·rcases q with q | q
   ·exact q
   ·rcases old b q with q | q
    ·omega
    ·exact hn q
end Go.Proofs.Ytcpcghnpoekhpaa.A
/- The ghost machine: a slice of one's own in a box, of elements whose slices are all nil, becomes a tree. -/
set_option linter.unusedSimpArgs false
set_option linter.unusedVariables false
set_option maxRecDepth 100000
set_option maxHeartbeats 4000000
namespace Go.Proofs.Ytcpcghnpoekhpaa.A
open Go Go.RowKit
variable {P : Program} {T : TT} {w0 w : World} {S0 S : Nat → Prop} {F : Fr} {st : St} {a : Act} {bx : Nat → Nat} {ph : Nat → Nat → Pv}
def plainV : V → Bool
 | .undef | .one (.c _) | .one (.ptr _ _) => true
 | _ => false
theorem blksL_leaf : ∀ xs : List Value, blksL (xs.map fun x => Pv.mk x none []) = []
 | [] => rfl
 | x :: xs => by
  show (Pv.mk x none []).blks ++ blksL _ = []
  rw [blksL_leaf xs]; rfl
theorem crept_own {e : TypeId} {ks : List Sh} {n : Nat} {cs ds : List C} {p : Pv} (h : RCRep T w S p (.own e n cs)) (hl : cs.length = ds.length)
  (hk : ∀ k (h1 : k < cs.length) (h2 : k < ds.length), (ks.getD (k % szOf T e) .st = .st ∧ ds[k] = cs[k]) ∨ ((∃ e' ks', ks.getD (k % szOf T e) .st = .sl e' ks') ∧ cs[k] = .nil ∧ ds[k] = .sl 0 [])) (hz : n = 0 → ds = []) :
  ∃ q : Pv, q.v = p.v ∧ RCRep T w S q (.tree (.sl e ks) (.sl n ds) none) ∧ ∀ b, b ∈ q.blks → p.v.ownBlock = some b := by
 obtain ⟨xs, h1, h2, h3⟩ := h
 rcases h1.2 with ⟨hv, hn⟩ | ⟨g, cap, cur, hv, _, hg, hc⟩
 ·obtain rfl := hn
  obtain rfl := hz rfl
  refine ⟨.mk nilSl none [], hv.symm, ⟨.nil (.inr rfl), by simp [Pv.blks, blksL], ⟨_, _, rfl⟩, fun p hp => by cases hp⟩, fun b hb => by simp [Pv.blks, blksL] at hb⟩
 ·refine ⟨.mk p.v (some g) (xs.map fun x => Pv.mk x none []), rfl, ⟨?_, ?_, ⟨_, _, rfl⟩, fun p hp => by cases hp⟩, fun b hb => ?_⟩
  ·show CRepT T w S none (.sl e ks) p.v (.mk p.v (some g) _) (.sl n ds)
   rw [hv] at h1 ⊢
   refine .node (fun h => by cases h) (fun k p hp => by cases hp) h1 (by omega) (by simp) fun k k1 k2 k3 => ?_
   rw [List.getElem_map]
   have hx := h3 k (by omega) k1
   show CRepT T w S none _ _ _ _
   rcases hk k (by omega) k3 with ⟨q1, q2⟩ | ⟨⟨e', ks', q1⟩, q2, q3⟩
   ·rw [q1, q2]; exact .st hx
   ·rw [q1, q3]
    rw [q2] at hx
    rw [crep_nil hx]
    exact .nil (.inr rfl)
  ·simp [Pv.blks, blksL_leaf]
  ·have : b = g := by simpa [Pv.blks, blksL_leaf] using hb
   rw [hv, this]; rfl
theorem Rel.ownTree (h : Rel T w0 S0 F st a w S bx ph) {t : Nat} {e : TypeId} {ks : List Sh} {n : Nat} {cs ds : List C} (hr : st.r.getD t .none = .box [.own e n cs]) (hp : st.s.all plainV = true) (hl : cs.length = ds.length)
  (hk : ∀ k (h1 : k < cs.length) (h2 : k < ds.length), (ks.getD (k % szOf T e) .st = .st ∧ ds[k] = cs[k]) ∨ ((∃ e' ks', ks.getD (k % szOf T e) .st = .sl e' ks') ∧ cs[k] = .nil ∧ ds[k] = .sl 0 [])) (hz : n = 0 → ds = []) :
  ∃ ph', Rel T w0 S0 F { st with r := st.r.set t (.box [.tree (.sl e ks) (.sl n ds) none]) } a w S bx ph' := by
 have hlt : t < st.r.length := by
  refine Decidable.byContradiction fun q => ?_
  rw [List.getD_eq_getElem?_getD, List.getElem?_eq_none (by omega)] at hr
  cases hr
 have h0 := h.heap.root t
 rw [hr] at h0
 obtain ⟨q, q1, q2, q3⟩ := crept_own (h0.2.1 0 (by show 0 < 1; omega)) hl hk hz
 obtain ⟨ph', hph⟩ : ∃ ph' : Nat → Nat → Pv, ph' = fun u o => if u = t then (if o = 0 then q else ph t o) else ph u o := ⟨_, rfl⟩
 have hg : ∀ u, (st.r.set t (.box [.tree (.sl e ks) (.sl n ds) none])).getD u .none = if t = u then .box [.tree (.sl e ks) (.sl n ds) none] else st.r.getD u .none := fun u => by
  rw [List.getD_eq_getElem?_getD, List.getElem?_set]
  by_cases e1 : t = u
  ·rw [if_pos e1, if_pos e1, if_pos hlt]; rfl
  ·rw [if_neg e1, if_neg e1, ← List.getD_eq_getElem?_getD]
 have hne : ∀ u, t ≠ u → ph' u = ph u := fun u hu => by rw [hph]; funext o; exact if_neg (fun e => hu e.symm)
 have hown : ∀ u κ b, owns (st.r.set t (.box [.tree (.sl e ks) (.sl n ds) none])) bx ph' u κ b → owns st.r bx ph u κ b := fun u κ b hb => by
  by_cases e1 : t = u
  ·subst e1
   cases κ with
   | none => unfold owns at hb ⊢; rw [hg, if_pos rfl] at hb; rw [hr]; exact hb
   | some p =>
    unfold owns ownOf at hb ⊢
    rw [hg, if_pos rfl] at hb; rw [hr]
    cases p with
    | zero =>
     have hb' : b ∈ (ph' t 0).blks := hb
     rw [hph] at hb'
     simp only [if_true] at hb'
     exact q3 b hb'
    | succ p => exact hb
  ·cases κ with
   | none => unfold owns at hb ⊢; rw [hg, if_neg e1] at hb; exact hb
   | some p => unfold owns ownOf at hb ⊢; rw [hg, if_neg e1, hne u e1] at hb; exact hb
 refine ⟨ph', h.size, ⟨by simp only [List.length_set]; exact h.rsize.1, h.rsize.2⟩, h.defers, ⟨fun u => ?_, fun u κ u' κ' b h1 h2 => h.heap.inj _ _ _ _ b (hown _ _ _ h1) (hown _ _ _ h2), fun u κ b h1 => h.heap.free _ _ b (hown _ _ _ h1), h.heap.low⟩, fun u κ b h1 => h.mine _ _ b (hown _ _ _ h1), fun i hi => ?_, h.keep, h.new, h.chg⟩
 ·show RootRep T w S (bx u) (ph' u) ((st.r.set t _).getD u .none)
  rw [hg]
  by_cases e1 : t = u
  ·subst e1
   rw [if_pos rfl]
   obtain ⟨⟨arr, ty, a1, a2, a3⟩, _, _⟩ := h0
   refine ⟨⟨arr, ty, a1, a2, fun o ho => ?_⟩, fun o ho => ?_, fun o f ho => ?_⟩
   ·obtain rfl : o = 0 := by have : o < 1 := ho; omega
    rw [a3 0 (by show 0 < 1; omega), hph]
    simp only [if_true]
    rw [q1]
   ·obtain rfl : o = 0 := by have : o < 1 := ho; omega
    rw [hph]
    simp only [if_true]
    exact q2
   ·match o with
    | 0 => cases ho
    | o + 1 => cases ho
  ·rw [if_neg e1, hne u e1]; exact h.heap.root u
 ·have hi' : i < st.s.length := hi
  have hv := h.slot i hi'
  have hpv : plainV (st.s.getD i .undef) = true := by
   rw [List.getD_eq_getElem?_getD, List.getElem?_eq_getElem hi']
   exact List.all_eq_true.1 hp _ (List.getElem_mem hi')
  show VRep T w S (st.r.set t _) bx ph' (a.tmps.getD i undef) (st.s.getD i .undef)
  generalize st.s.getD i .undef = v at hv hpv ⊢
  match v, hpv, hv with
  | .undef, _, _ => trivial
  | .one (.c c), _, hv => exact hv
  | .one (.ptr u o), _, hv =>
   obtain ⟨row, r1, r2, r3⟩ := hv
   by_cases e1 : t = u
   ·subst e1
    rw [hr] at r1; cases r1
    exact ⟨[.tree (.sl e ks) (.sl n ds) none], by rw [hg, if_pos rfl], r2, r3⟩
   ·exact ⟨row, by rw [hg, if_neg e1]; exact r1, r2, r3⟩
theorem le_tree {t : Nat} {e : TypeId} {ks : List Sh} {n : Nat} {cs ds : List C} (hr : st.r.getD t .none = .box [.own e n cs]) (hp : st.s.all plainV = true) (hl : cs.length = ds.length)
  (hk : ∀ k (h1 : k < cs.length) (h2 : k < ds.length), (ks.getD (k % szOf T e) .st = .st ∧ ds[k] = cs[k]) ∨ ((∃ e' ks', ks.getD (k % szOf T e) .st = .sl e' ks') ∧ cs[k] = .nil ∧ ds[k] = .sl 0 [])) (hz : n = 0 → ds = []) (ht : t ≠ st.s.length) :
  Le T st { st with r := st.r.set t (.box [.tree (.sl e ks) (.sl n ds) none]) } := by
 intro w0 S0 F a w ⟨S, bx, ph, h1, h2⟩
 obtain ⟨ph', h3⟩ := h1.ownTree hr hp hl hk hz
 refine ⟨S, bx, ph', h3, ?_⟩
 show (st.r.set t _).getD st.s.length .none = .none
 rw [List.getD_eq_getElem?_getD, List.getElem?_set, if_neg ht, ← List.getD_eq_getElem?_getD]
 exact h2
end Go.Proofs.Ytcpcghnpoekhpaa.A
/- The ghost machine: contracts of the kit for functions that give a plain value. -/
set_option linter.unusedSimpArgs false
set_option linter.unusedVariables false
set_option maxRecDepth 100000
set_option maxHeartbeats 4000000
namespace Go.Proofs.Ytcpcghnpoekhpaa.A
open Go Go.RowKit
variable {P : Program} {T : TT}
theorem pc_of_calls {f : FuncId} {args : List Arg} {v : Value} (hp : plain v = true) (h : ∀ (w : World) (S : Nat → Prop) (bx : Nat → Nat) (vs : List Value), LowG w S → vs.length = reals args → (∀ i (h : i < args.length) (h2 : i < vs.length), ArgRep w S bx (bx i) vs[i] args[i]) →
  Calls P f vs.toArray w fun e w' => e = .returned v ∧ Chg (fun _ => False) w w') : PC P T f args (ret1 (.st (.val v))) [] := by
 intro w S bx ph vs hheap hl ha
 refine (h w S bx vs hheap.low hl ha).mono ?_
 rintro e w' ⟨rfl, hc⟩
 have hS : ∀ b, S b → w'.heap[b]? = w.heap[b]? := fun b hb => hc.block b (hheap.low.1 b hb) id
 have hg : ∀ t, ([Root.loose [.st (.val v)]] : List Root).getD (t + 1) .none = .none := fun t => by simp
 have hno : ∀ t κ b, ¬ owns (Root.loose [.st (.val v)] :: []) (fun i => if i = 0 then 0 else bx (i - 1)) (fun t _ => if t = 0 then .of v else default) t κ b := fun t κ b hb => by
  cases t with
  | succ t => exact (owns_none _ _ _ (hg t) _ _ hb).elim
  | zero =>
   cases κ with
   | none => obtain ⟨row, h1, _⟩ := owns_box hb; cases h1
   | some o =>
    obtain ⟨rc, h1, h2⟩ := owns_cell hb
    cases o with
    | zero => cases h1; cases h2
    | succ o => cases h1
 refine ⟨v, S, fun i => if i = 0 then 0 else bx (i - 1), fun t _ => if t = 0 then .of v else default, rfl, ⟨?_, ?_, fun i => by simp, fun b h => h, fun b h => .inl h, fun t κ b hb => absurd hb (hno t κ b), ?_⟩⟩
 ·refine ⟨fun t => ?_, fun t κ t' κ' b hb => absurd hb (hno t κ b), fun t κ b hb => absurd hb (hno t κ b), ⟨fun b hb => Nat.lt_of_lt_of_le (hheap.low.1 b hb) hc.size, hheap.low.2.frame hS fun _ h => h⟩⟩
  cases t with
  | succ t => show RootRep T w' S _ _ (([Root.loose [.st (.val v)]] : List Root).getD (t + 1) .none); rw [hg]; trivial
  | zero =>
   intro o ho
   have ho' : o < 1 := ho
   obtain rfl : o = 0 := by omega
   exact .val hp
 ·show RetRep _ v (ret1 (.st (.val v)))
  unfold RetRep
  rw [if_neg (by simp [ret1])]
  exact ⟨by unfold PartVal; rw [if_neg (by simp)]; exact ⟨rfl, rfl⟩, trivial⟩
 ·exact hc.mono fun _ _ h => h.elim
end Go.Proofs.Ytcpcghnpoekhpaa.A
/- Readings of structs whose fields take one cell each. No program in sight. -/
set_option linter.unusedSimpArgs false
set_option linter.unusedVariables false
set_option maxRecDepth 100000
set_option maxHeartbeats 4000000
namespace Go.Proofs.Ytcpcghnpoekhpaa
open Go.RowKit Go.ChangeShapes Go.WideShapes Go.ChangeAt
def RRec3 {α β γ : Type} (A : Rd α) (B : Rd β) (C : Rd γ) : Rd (α × β × γ) := fun w cs x => ∃ c0 c1 c2, cs = [c0, c1, c2] ∧ A w [c0] x.1 ∧ B w [c1] x.2.1 ∧ C w [c2] x.2.2
section
variable {H : Type} {enc : TypeId × Value → H} {P : Program} {w : World}
theorem lk_fld {α : Type} {A : Rd α} {t : TypeId} {fs : Array Field} (ht : P.underlying t = some (.struct fs)) (i : Nat) (f : Field) (hf : fs[i]? = some f) (hA : Lk enc P w f.type A) :
  ∀ (fuel : Nat) (cs : List Value) (x : DataW H × List MemPlace), DataW.trod enc P w 0 (fun _ => true) true fuel t cs = some x → (x.1.weights P t).all (· ≤ reachBytes) = true → ∃ a, A w ((cs.drop f.offset).take (P.cellsOf f.type)) a := by
 intro fuel cs x h hz
 obtain ⟨xs, n, rfl, rfl, hl, hxs, hall⟩ := DataW.trod_struct ht h
 have h1 := hall i f hf
 have hi : i < xs.length := by rw [hxs]; exact (Array.getElem?_eq_some_iff.1 hf).1
 rw [List.getElem?_eq_getElem hi] at h1
 refine hA _ _ _ h1 (List.all_eq_true.2 fun m hm => List.all_eq_true.1 hz m ?_)
 simp only [DataW.weights, ht]
 exact DataW.weights_mem_each (ts := fs.toList.map (·.type)) (j := i) (t := f.type) (d := xs[i].1) (ds := xs.map (·.1)) (by simp [hf]) (by rw [List.getElem?_map, List.getElem?_eq_getElem hi]; rfl) m hm
theorem lk_len {t : TypeId} {fs : Array Field} (ht : P.underlying t = some (.struct fs)) {fuel : Nat} {cs : List Value} {x : DataW H × List MemPlace} (h : DataW.trod enc P w 0 (fun _ => true) true fuel t cs = some x) : cs.length = P.cellsOf t := by
 obtain ⟨xs, n, rfl, rfl, hl, hxs, hall⟩ := DataW.trod_struct ht h
 exact hl
theorem lk_rec3 {α β γ : Type} {A : Rd α} {B : Rd β} {C : Rd γ} {t : TypeId} {f0 f1 f2 : Field} (ht : P.underlying t = some (.struct #[f0, f1, f2])) (ho : (f0.offset, f1.offset, f2.offset, P.cellsOf f0.type, P.cellsOf f1.type, P.cellsOf f2.type, P.cellsOf t) = (0, 1, 2, 1, 1, 1, 3))
  (ha : Lk enc P w f0.type A) (hb : Lk enc P w f1.type B) (hc : Lk enc P w f2.type C) : Lk enc P w t (RRec3 A B C) := by
 intro fuel cs x h hz
 simp only [Prod.mk.injEq] at ho
 obtain ⟨o0, o1, o2, k0, k1, k2, k⟩ := ho
 have hl := lk_len ht h
 rw [k] at hl
 match cs, hl with
 | [c0, c1, c2], _ =>
  obtain ⟨a, h0⟩ := lk_fld ht 0 f0 rfl ha _ _ _ h hz
  obtain ⟨b, h1⟩ := lk_fld ht 1 f1 rfl hb _ _ _ h hz
  obtain ⟨c, h2⟩ := lk_fld ht 2 f2 rfl hc _ _ _ h hz
  rw [o0, k0] at h0; rw [o1, k1] at h1; rw [o2, k2] at h2
  exact ⟨(a, b, c), c0, c1, c2, rfl, h0, h1, h2⟩
end
end Go.Proofs.Ytcpcghnpoekhpaa
/- The ghost machine: structs that came in, as9 cells. -/
set_option linter.unusedSimpArgs false
set_option linter.unusedVariables false
set_option maxRecDepth 100000
set_option maxHeartbeats 4000000
namespace Go.Proofs.Ytcpcghnpoekhpaa.A
open Go
theorem rdc_rec3 {α β γ : Type} {A : Rd α} {B : Rd β} {D : Rd γ} {f : α → List C} {g : β → List C} {h : γ → List C} (ha : RdC A f) (hb : RdC B g) (hd : RdC D h) : RdC (RRec3 A B D) fun x => f x.1 ++ (g x.2.1 ++ h x.2.2) := by
 rintro w cs x ⟨c0, c1, c2, rfl, h1, h2, h3⟩
 exact rdc_pair (s1 := 1) (s2 := 2) ha (rdc_pair (s1 := 1) (s2 := 1) hb hd) w _ x ⟨[c0], [c1, c2], rfl, rfl, rfl, h1, ⟨[c1], [c2], rfl, rfl, rfl, h2, h3⟩⟩
end Go.Proofs.Ytcpcghnpoekhpaa.A
