/- The ghost machine, part 25: what stands at a loop's head; what a function gives. -/
import Derived.Test.YtdmdcmhgfgookaaAm24
set_option linter.unusedSimpArgs false
set_option linter.unusedVariables false
set_option maxRecDepth 100000
set_option maxHeartbeats 4000000
namespace Go.Proofs.Ytdmdcmhgfgookaa.A
open Go Go.RowKit
variable {P : Program} {T : TT} {w w' w0 : World} {S S0 : Nat → Prop} {F : Fr} {bx : Nat → Nat} {ph : Nat → Nat → Pv} {a : Act} {st st' : St}

theorem Rel.reslot (h : Rel T w0 S0 F st a w S bx ph) (d : Nat) {V : V} (hV : VRep T w S st.r bx ph (a.tmps.getD d undef) V) : Rel T w0 S0 F { st with s := st.s.set d V } a w S bx ph := by
  refine ⟨by simp [h.size], ⟨by simp only [List.length_set]; exact h.rsize.1, fun t ht => h.rsize.2 t (by simpa using ht)⟩, h.defers, h.heap, h.mine, fun i hi => ?_, h.keep, h.new, h.chg⟩
  have hi' : i < st.s.length := by simpa using hi
  show VRep T w S st.r bx ph (a.tmps.getD i undef) ((st.s.set d V).getD i .undef)
  rw [getD_set]
  by_cases e : d = i
  · subst e; rw [if_pos ⟨rfl, hi'⟩]; exact hV
  · rw [if_neg (fun hh => e hh.1)]; exact h.slot i hi'

inductive KS where
  | keep
  | own (e : TypeId)
  | map
  | fz
  | tree (sh : Sh)
  | btree (o : Nat) (sh : Sh)
  | box (o : Nat) (e : TypeId)
  | bfz (o : Nat)
def canon1 (T : TT) (j : J) (st : St) (d : Nat) : KS → Option St
  | .keep => some st
  | .own e =>
    if d < st.s.length then
      match st.s.getD d .undef with
      | .one (.c .nil) =>
        let st1 : St := { st with r := pushR st.r st.s.length (.own e 0 []) }
        some { name st1 d with s := (name st1 d).s.set d (.one (.view d 0)) }
      | .one x =>
        match push T j st x with
        | some st1 => (match (rootOf st1.r st1.s.length).row with | [.own _ _ _] => some { name st1 d with s := (name st1 d).s.set d (.one (.view d 0)) } | _ => none)
        | none => none
      | _ => none
    else none
  | .map =>
    if d < st.s.length then
      match st.s.getD d .undef with
      | .one (.mv t o) =>
        match push T j st (.mv t o) with
        | some st1 => (match (rootOf st1.r st1.s.length).row with | [.map _ _] => some { name st1 d with s := (name st1 d).s.set d (.one (.mv d 0)) } | _ => none)
        | none => none
      | _ => none
    else none
  | .fz =>
    if d < st.s.length then
      match st.s.getD d .undef with
      | .one (.c .nil) => some { st with s := st.s.set d (.one (.c (.sl 0 []))) }
      | .one x => some (freezeX T j st x)
      | _ => none
    else none
  | .tree sh =>
    if d < st.s.length then
      match st.s.getD d .undef with
      | .one (.c .nil) =>
        match sh with
        | .sl _ _ =>
          let st1 : St := { st with r := pushR st.r st.s.length (.tree sh (.sl 0 []) none) }
          some { name st1 d with s := (name st1 d).s.set d (.one (.tv d 0 [])) }
        | .st => none
      | .one x =>
        match push T j st x with
        | some st1 => (match (rootOf st1.r st1.s.length).row with | [.tree _ _ none] => some { name st1 d with s := (name st1 d).s.set d (.one (.tv d 0 [])) } | _ => none)
        | none => none
      | _ => none
    else none
  | .btree o sh =>
    match st.r.getD d .none with
    | .box row =>
      match row[o]? with
      | some (.st .nil) => (match sh with | .sl _ _ => some { st with r := setCellR st.r d o (.tree sh (.sl 0 []) none) } | .st => none)
      | some (.tree _ _ none) => some st
      | _ => none
    | _ => none
  | .box o e =>
    match st.r.getD d .none with
    | .box row =>
      match row[o]? with
      | some (.st .nil) => some { st with r := setCellR st.r d o (.own e 0 []) }
      | some (.own _ _ _) => some st
      | _ => none
    | _ => none
  | .bfz o =>
    match st.r.getD d .none with
    | .box row =>
      match row[o]? with
      | some (.own _ _ _) => some (freeze T j st d o)
      | some (.tree _ _ none) => some (freeze T j st d o)
      | some (.st _) => some st
      | _ => none
    | _ => none
/-- does it speak of roots of the list alone ? -/
def within (l : List Nat) : X → Bool
  | .view t _ | .mv t _ | .sub t _ _ _ | .ptr t _ | .eptr t _ _ | .tv t _ _ | .tp t _ _ _ _ | .bfn _ t => l.contains t
  | .fn _ caps => caps.all l.contains
  | _ => true
def mask (ks : List Nat) (rs : List Nat) (st : St) : St :=
  { s := st.s.zipIdx.map fun p => if ks.contains p.2 then mapV (fun x => if within rs x then x else .undef) p.1 else .undef,
    r := st.r.zipIdx.map fun p => if rs.contains p.2 && p.2 != st.s.length then p.1 else .none }
def canons (T : TT) (j : J) : St → List (Nat × KS) → Option St
  | st, [] => some st
  | st, (d, k) :: ks => match canon1 T j st d k with | some st1 => canons T j st1 ks | none => none
def ownNames : List (Nat × KS) → List Nat
  | [] => []
  | (d, .own _) :: ks => d :: ownNames ks
  | (d, .tree _) :: ks => d :: ownNames ks
  | (d, .map) :: ks => d :: ownNames ks
  | _ :: ks => ownNames ks
def slotNames : List (Nat × KS) → List Nat
  | [] => []
  | (_, .box _ _) :: ks => slotNames ks
  | (_, .btree _ _) :: ks => slotNames ks
  | (_, .bfz _) :: ks => slotNames ks
  | (d, _) :: ks => d :: slotNames ks
/-- the roots that came in -/
def outer (st : St) : List Nat := (List.range (st.r.length - (st.s.length + 1))).map fun i => st.s.length + 1 + i
/-- the live slots and the boxes that are kept; what owns gets its slot's name -/
def canon (T : TT) (j : J) (ks : List (Nat × KS)) (bs : List Nat) (st : St) : Option St :=
  match canons T j st ks with
  | some st1 => some (mask (slotNames ks) (bs ++ ownNames ks ++ outer st1) st1)
  | none => none

theorem named_view (h : Rel T w0 S0 F st a w S bx ph) {d : Nat} (hd : d < st.s.length) {e : TypeId} {n : Nat} {cells : List C} (hr : st.r.getD st.s.length .none = .loose [.own e n cells]) (hv : a.tmps.getD d undef = (ph st.s.length 0).v) :
    Rels T w0 S0 F { name st d with s := (name st d).s.set d (.one (.view d 0)) } a w := by
  obtain ⟨h1, h2, h3⟩ := name_rel h hd
  refine ⟨S, _, _, h1.reslot d ⟨e, n, cells, ?_, ?_⟩, ?_⟩
  · rw [h3, hr]; rfl
  · rw [hv]; simp
  · show (name st d).r.getD ((name st d).s.set d _).length .none = .none
    rw [List.length_set, show (name st d).s.length = st.s.length by simp [name, kill]]
    exact h2

theorem named_map (h : Rel T w0 S0 F st a w S bx ph) {d : Nat} (hd : d < st.s.length) {kk : KK} {m : GM} (hr : st.r.getD st.s.length .none = .loose [.map kk m]) (hv : a.tmps.getD d undef = (ph st.s.length 0).v) :
    Rels T w0 S0 F { name st d with s := (name st d).s.set d (.one (.mv d 0)) } a w := by
  obtain ⟨h1, h2, h3⟩ := name_rel h hd
  refine ⟨S, _, _, h1.reslot d ⟨kk, m, ?_, ?_⟩, ?_⟩
  · rw [h3, hr]; rfl
  · rw [hv]; simp
  · show (name st d).r.getD ((name st d).s.set d _).length .none = .none
    rw [List.length_set, show (name st d).s.length = st.s.length by simp [name, kill]]
    exact h2

theorem Rel.boxOwn (h : Rel T w0 S0 F st a w S bx ph) {t o : Nat} {row : List RC} (hr : st.r.getD t .none = .box row) (ho : row[o]? = some (.st .nil)) (e : TypeId) :
    Rel T w0 S0 F { st with r := setCellR st.r t o (.own e 0 []) } a w S bx ph := by
  have hol : o < row.length := (List.getElem?_eq_some_iff.1 ho).1
  have hz : (ph t o).v = .slice none 0 0 := by
    have h1 := h.heap.root t
    rw [hr] at h1
    have h2 := h1.2.1 o hol
    rw [(List.getElem?_eq_some_iff.1 ho).2] at h2
    exact crep_nil h2
  have hg : ∀ u, (setCellR st.r t o (.own e 0 [])).getD u .none = if t = u then .box (row.set o (.own e 0 [])) else st.r.getD u .none := fun u => by
    rw [getD_setCell, hr]; rfl
  have hown : ∀ u κ b, owns (setCellR st.r t o (.own e 0 [])) bx ph u κ b → owns st.r bx ph u κ b := fun u κ b hb => by
    by_cases e1 : t = u
    · subst e1
      cases κ with
      | none => unfold owns at hb ⊢; rw [hg, if_pos rfl] at hb; rw [hr]; exact hb
      | some p =>
        unfold owns ownOf at hb ⊢
        rw [hg, if_pos rfl] at hb; rw [hr]
        simp only [Root.row, List.getElem?_set] at hb ⊢
        by_cases e2 : o = p
        · subst e2
          rw [if_pos rfl, if_pos hol] at hb
          simp only [RC.blk, hz] at hb; cases hb
        · rw [if_neg e2] at hb; exact hb
    · cases κ with
      | none => unfold owns at hb ⊢; rw [hg, if_neg e1] at hb; exact hb
      | some p => unfold owns at hb ⊢; rw [hg, if_neg e1] at hb; exact hb
  refine ⟨h.size, ⟨by simp only [setCellR, List.length_set]; exact h.rsize.1, h.rsize.2⟩, h.defers, ⟨fun u => ?_, fun u κ u' κ' b h1 h2 => h.heap.inj _ _ _ _ b (hown _ _ _ h1) (hown _ _ _ h2), fun u κ b h1 => h.heap.free _ _ b (hown _ _ _ h1), h.heap.low⟩, fun u κ b h1 => h.mine _ _ b (hown _ _ _ h1), fun i hi => ?_, h.keep, h.new, h.chg⟩
  · show RootRep T w S (bx u) (ph u) ((setCellR st.r t o (.own e 0 [])).getD u .none)
    rw [getD_setCell]
    by_cases e1 : t = u
    · subst e1
      rw [if_pos rfl]
      exact (h.heap.root t).setCell (fun _ => ⟨[], by rw [hz]; exact World.ownsRow_nil _ _ _ _, rfl, fun k hk => absurd hk (by simp)⟩) rfl
    · rw [if_neg e1]; exact h.heap.root u
  · refine (h.slot i hi).mono fun v x hx => hx.congr2 (fun u p e2 n cells hv => ?_) (fun u p kk m hv => ?_) (fun u p sh2 c2 hp2 hv => ?_) fun u row2 hv => ?_
    · refine ⟨cells, ?_⟩
      rw [hg]
      by_cases e1 : t = u
      · subst e1; rw [hr] at hv; rw [if_pos rfl]
        simp only [Root.row, List.getElem?_set] at hv ⊢
        by_cases e3 : o = p
        · subst e3; rw [ho] at hv; cases hv
        · rw [if_neg e3]; exact hv
      · rw [if_neg e1]; exact hv
    · refine ⟨kk, m, ?_⟩
      rw [hg]
      by_cases e1 : t = u
      · subst e1; rw [hr] at hv; rw [if_pos rfl]
        simp only [Root.row, List.getElem?_set] at hv ⊢
        by_cases e3 : o = p
        · subst e3; rw [ho] at hv; cases hv
        · rw [if_neg e3]; exact hv
      · rw [if_neg e1]; exact hv
    · refine ⟨c2, hp2, ?_⟩
      rw [hg]
      by_cases e1 : t = u
      · subst e1; rw [hr] at hv; rw [if_pos rfl]
        simp only [Root.row, List.getElem?_set] at hv ⊢
        by_cases e3 : o = p
        · subst e3; rw [ho] at hv; cases hv
        · rw [if_neg e3]; exact hv
      · rw [if_neg e1]; exact hv
    · rw [hg]
      by_cases e1 : t = u
      · subst e1; rw [hr] at hv; cases hv; rw [if_pos rfl]; exact ⟨_, rfl, by simp⟩
      · rw [if_neg e1]; exact ⟨row2, hv, rfl⟩

theorem named_tree (h : Rel T w0 S0 F st a w S bx ph) {d : Nat} (hd : d < st.s.length) {sh : Sh} {c : C} {hh : Option Path} (hr : st.r.getD st.s.length .none = .loose [.tree sh c hh]) (hv : a.tmps.getD d undef = (ph st.s.length 0).v) (hn : hh = none) :
    Rels T w0 S0 F { name st d with s := (name st d).s.set d (.one (.tv d 0 [])) } a w := by
  subst hn
  obtain ⟨h1, h2, h3⟩ := name_rel h hd
  have hcell : ((name st d).r.getD d .none).row[0]? = some (.tree sh c none) := by rw [h3, hr]; rfl
  have hx := rcX_sound (st := name st d) h1.heap hcell
  refine ⟨S, _, _, h1.reslot d (V := .one (.tv d 0 [])) ?_, ?_⟩
  · rw [hv]
    simp only [if_pos] at hx
    exact hx
  · show (name st d).r.getD ((name st d).s.set d _).length .none = .none
    rw [List.length_set, show (name st d).s.length = st.s.length by simp [name, kill]]
    exact h2
theorem Rel.boxTree (h : Rel T w0 S0 F st a w S bx ph) {t o : Nat} {row : List RC} (hr : st.r.getD t .none = .box row) (ho : row[o]? = some (.st .nil)) (e : TypeId) (ks : List Sh) :
    ∃ ph', Rel T w0 S0 F { st with r := setCellR st.r t o (.tree (.sl e ks) (.sl 0 []) none) } a w S bx ph' := by
  have hc : (st.r.getD t .none).row[o]? = some (.st .nil) := by rw [hr]; exact ho
  have hz := crep_nil (h.heap.cell hc)
  obtain ⟨h1, _⟩ := tree_turn h (rc0 := .st .nil) (pv' := .mk nilSl none []) (W := fun _ => False) (sh := .sl e ks) (c' := .sl 0 []) (hh' := none) hc (Chg.refl _ w) (fun _ hf => hf.elim) hz.symm
    ⟨.nil (.inr rfl), by simp [Pv.blks, blksL], ⟨_, _, rfl⟩, fun p hp => by cases hp⟩ (fun b hb => by simp [Pv.blks, blksL] at hb) (fun _ => false) (fun y v _ hoc hy => by
      rcases ofCell_cases hoc with rfl | ⟨lo, hi, rfl⟩ | ⟨k, rfl⟩ | rfl | ⟨p', rfl⟩ | ⟨p', k, off, rfl⟩
      · obtain ⟨_, _, _, h1, _⟩ := hy; rw [hc] at h1; cases h1
      · obtain ⟨_, _, _, _, _, _, h1, _⟩ := hy; rw [hc] at h1; cases h1
      · obtain ⟨_, _, _, _, _, h1, _⟩ := hy; rw [hc] at h1; cases h1
      · obtain ⟨_, _, h1, _⟩ := hy; rw [hc] at h1; cases h1
      · obtain ⟨_, _, _, _, h1, _⟩ := hy; rw [hc] at h1; cases h1
      · obtain ⟨_, _, _, _, _, _, _, _, _, h1, _⟩ := hy; rw [hc] at h1; cases h1)
  have e1 : kill (fun _ => false) st.s = st.s := by unfold kill; simp only [Bool.false_eq_true, if_false]; exact map_id' _
  rw [e1] at h1
  exact ⟨_, h1⟩
theorem canon1_le {d : Nat} {k : KS} (hc : canon1 T (std P T) st d k = some st') : Le T st st' := by
  intro w0 S0 F a w hr
  unfold canon1 at hc
  split at hc
  · cases hc; exact hr
  · rename_i e
    split at hc
    · rename_i hd
      obtain ⟨S, bx, ph, h, hsp⟩ := hr
      have hslot := h.slot d hd
      split at hc
      · rename_i hx
        cases hc
        rw [hx] at hslot
        have hz := crep_nil hslot
        have hrc : RCRep T w S (.of (a.tmps.getD d undef)) (.own e 0 []) :=
          ⟨[], by rw [hz]; exact World.ownsRow_nil _ _ _ _, rfl, fun k hk => absurd hk (by simp)⟩
        obtain ⟨h1, h2⟩ := pushOwn h hsp hrc (fun b hb => by have hb2 : (a.tmps.getD d undef).ownBlock = some b := hb; rw [hz] at hb2; cases hb2)
        refine named_view h1 hd h2 ?_
        show _ = (phPush ph st.s.length 0 _ st.s.length 0).v
        unfold phPush; rw [if_pos ⟨rfl, rfl⟩]; rfl
      · rename_i x _ hx
        split at hc
        · rename_i st1 hp
          split at hc
          · rename_i e' n cells hrow
            cases hc
            rw [hx] at hslot
            have hb : ∀ row, st.r.getD st.s.length .none ≠ .box row := by rw [hsp]; exact fun _ h => by cases h
            obtain ⟨ph', q, _⟩ := push_sound h hb hslot hp
            have hl0 : (st.r.getD st.s.length .none).row = [] := by rw [hsp]; rfl
            have hv := q.vals 0 (by simp)
            rw [hl0] at hv
            have hroot : st1.r.getD st1.s.length .none = .loose [.own e' n cells] := by
              have h3 := q.loose
              rw [← q.len] at h3
              unfold rootOf at hrow
              cases hR : st1.r.getD st1.s.length .none with
              | none => rw [hR] at hrow; cases hrow
              | box row => exact absurd hR (h3 row)
              | loose row => rw [hR] at hrow; simp only [Root.row] at hrow; rw [hrow]
            refine named_view q.rel (by rw [q.len]; exact hd) hroot ?_
            rw [q.len]
            simpa using hv.symm
          · cases hc
        · cases hc
      · cases hc
    · cases hc
  · split at hc
    · rename_i hd
      obtain ⟨S, bx, ph, h, hsp⟩ := hr
      have hslot := h.slot d hd
      split at hc
      · rename_i t o hx
        split at hc
        · rename_i st1 hp
          split at hc
          · rename_i kk m hrow
            cases hc
            rw [hx] at hslot
            have hb : ∀ row, st.r.getD st.s.length .none ≠ .box row := by rw [hsp]; exact fun _ h => by cases h
            obtain ⟨ph', q, _⟩ := push_sound h hb (x := .mv t o) hslot hp
            have hl0 : (st.r.getD st.s.length .none).row = [] := by rw [hsp]; rfl
            have hv := q.vals 0 (by simp)
            rw [hl0] at hv
            have hroot : st1.r.getD st1.s.length .none = .loose [.map kk m] := by
              have h3 := q.loose
              rw [← q.len] at h3
              unfold rootOf at hrow
              cases hR : st1.r.getD st1.s.length .none with
              | none => rw [hR] at hrow; cases hrow
              | box row => exact absurd hR (h3 row)
              | loose row => rw [hR] at hrow; simp only [Root.row] at hrow; rw [hrow]
            refine named_map q.rel (by rw [q.len]; exact hd) hroot ?_
            rw [q.len]
            simpa using hv.symm
          · cases hc
        · cases hc
      · cases hc
    · cases hc
  · split at hc
    · rename_i hd
      obtain ⟨S, bx, ph, h, hsp⟩ := hr
      have hslot := h.slot d hd
      split at hc
      · rename_i hx
        cases hc
        rw [hx] at hslot
        have hz := crep_nil hslot
        refine ⟨S, bx, ph, h.reslot d (V := .one (.c (.sl 0 []))) ?_, by show st.r.getD (st.s.set d _).length .none = .none; rw [List.length_set]; exact hsp⟩
        rw [hz]; exact CRep.sl0
      · rename_i x _ hx
        cases hc
        obtain ⟨S', h1, _⟩ := freezeX_sound (P := P) h x
        exact ⟨S', bx, ph, h1.rel, by rw [h1.len]; exact h1.spare _ hsp⟩
      · cases hc
    · cases hc
  · rename_i sh
    split at hc
    · rename_i hd
      obtain ⟨S, bx, ph, h, hsp⟩ := hr
      have hslot := h.slot d hd
      split at hc
      · rename_i hx
        split at hc
        · rename_i e ks
          cases hc
          rw [hx] at hslot
          have hz := crep_nil hslot
          have hrc : RCRep T w S (.mk nilSl none []) (.tree (.sl e ks) (.sl 0 []) none) := ⟨.nil (.inr rfl), by simp [Pv.blks, blksL], ⟨_, _, rfl⟩, fun p hp => by cases hp⟩
          obtain ⟨h1, h2⟩ := pushOwn h hsp hrc (fun b hb => by simp [RC.blk, Pv.blks, blksL] at hb)
          refine named_tree h1 hd h2 ?_ rfl
          rw [hz]
          show _ = (phPush ph st.s.length 0 _ st.s.length 0).v
          unfold phPush; rw [if_pos ⟨rfl, rfl⟩]; rfl
        · cases hc
      · rename_i x _ hx
        split at hc
        · rename_i st1 hp
          split at hc
          · rename_i sh' c' hrow
            cases hc
            rw [hx] at hslot
            have hb : ∀ row, st.r.getD st.s.length .none ≠ .box row := by rw [hsp]; exact fun _ h => by cases h
            obtain ⟨ph', q, _⟩ := push_sound h hb (x := x) hslot hp
            have hl0 : (st.r.getD st.s.length .none).row = [] := by rw [hsp]; rfl
            have hv := q.vals 0 (by simp)
            rw [hl0] at hv
            have hroot : st1.r.getD st1.s.length .none = .loose [.tree sh' c' none] := by
              have h3 := q.loose
              rw [← q.len] at h3
              unfold rootOf at hrow
              cases hR : st1.r.getD st1.s.length .none with
              | none => rw [hR] at hrow; cases hrow
              | box row => exact absurd hR (h3 row)
              | loose row => rw [hR] at hrow; simp only [Root.row] at hrow; rw [hrow]
            refine named_tree q.rel (by rw [q.len]; exact hd) hroot ?_ rfl
            rw [q.len]
            simpa using hv.symm
          · cases hc
        · cases hc
      · cases hc
    · cases hc
  · split at hc
    · rename_i row hrow
      split at hc
      · rename_i ho
        split at hc
        · rename_i e ks
          cases hc
          obtain ⟨S, bx, ph, h, hsp⟩ := hr
          obtain ⟨ph', h1⟩ := h.boxTree hrow ho e ks
          refine ⟨S, bx, ph', h1, ?_⟩
          show (setCellR st.r d _ _).getD st.s.length .none = .none
          rw [getD_setCell]
          by_cases e1 : d = st.s.length
          · subst e1; rw [hsp] at hrow; cases hrow
          · rw [if_neg e1]; exact hsp
        · cases hc
      · cases hc; exact hr
      · cases hc
    · cases hc
  · split at hc
    · rename_i row hrow
      split at hc
      · rename_i ho
        cases hc
        obtain ⟨S, bx, ph, h, hsp⟩ := hr
        refine ⟨S, bx, ph, h.boxOwn hrow ho _, ?_⟩
        show (setCellR st.r d _ _).getD st.s.length .none = .none
        rw [getD_setCell]
        by_cases e1 : d = st.s.length
        · subst e1; rw [hsp] at hrow; cases hrow
        · rw [if_neg e1]; exact hsp
      · cases hc; exact hr
      · cases hc
    · cases hc
  · split at hc
    · split at hc
      · cases hc
        obtain ⟨S, bx, ph, h, hsp⟩ := hr
        obtain ⟨S', h1, _⟩ := freeze_sound (P := P) h d _
        exact ⟨S', bx, ph, h1.rel, by rw [h1.len]; exact h1.spare _ hsp⟩
      · cases hc
        obtain ⟨S, bx, ph, h, hsp⟩ := hr
        obtain ⟨S', h1, _⟩ := freeze_sound (P := P) h d _
        exact ⟨S', bx, ph, h1.rel, by rw [h1.len]; exact h1.spare _ hsp⟩
      · cases hc; exact hr
      · cases hc
    · cases hc

theorem mask_le (ks rs : List Nat) (st : St) : Le T st (mask ks rs st) := by
  rintro w0 S0 F a w ⟨S, bx, ph, h, hsp⟩
  have hlen : (mask ks rs st).s.length = st.s.length := by simp [mask]
  have hg : ∀ t, (mask ks rs st).r.getD t .none = if rs.contains t = true ∧ t ≠ st.s.length then st.r.getD t .none else .none := fun t => by
    simp only [mask, List.getD_eq_getElem?_getD, List.getElem?_map, List.getElem?_zipIdx, Nat.zero_add]
    cases ht : st.r[t]? with
    | none => simp
    | some R =>
      simp only [Option.map_some, Option.getD_some]
      by_cases h1 : rs.contains t = true <;> by_cases h2 : t = st.s.length <;> simp [h1, h2]
  have hown : ∀ t κ b, owns (mask ks rs st).r bx ph t κ b → owns st.r bx ph t κ b := fun t κ b hb => by
    by_cases hc : rs.contains t = true ∧ t ≠ st.s.length
    · have e : (mask ks rs st).r.getD t .none = st.r.getD t .none := by rw [hg, if_pos hc]
      unfold owns at hb ⊢
      rw [e] at hb; exact hb
    · exact (owns_none _ _ _ (by rw [hg, if_neg hc]) _ _ hb).elim
  have hx : ∀ v x, XRep T w S st.r bx ph v x → within rs x = true → ofRoot st.s.length x = false → XRep T w S (mask ks rs st).r bx ph v x := fun v x hx hw hn => by
    refine hx.congr (fun t o rc hc _ hv => ?_) (fun t o he row hv hp => ?_) (fun f caps he t ht row hv => ?_)
    · have h1 : rs.contains t = true ∧ t ≠ st.s.length := by
        rcases ofCell_cases hc with rfl | ⟨lo, hi, rfl⟩ | ⟨k, rfl⟩ | rfl | ⟨p, rfl⟩ | ⟨p, k, off, rfl⟩ <;> exact ⟨hw, by simpa [ofRoot] using hn⟩
      exact ⟨by rw [hg, if_pos h1]; exact hv, rfl⟩
    · subst he
      have h1 : rs.contains t = true ∧ t ≠ st.s.length := ⟨hw, by simpa [ofRoot] using hn⟩
      exact ⟨row, by rw [hg, if_pos h1]; exact hv, hp, rfl⟩
    · have h1 : rs.contains t = true ∧ t ≠ st.s.length := ⟨by
        rcases he with rfl | ⟨u, rfl, rfl⟩
        · exact List.all_eq_true.1 hw t ht
        · rw [List.mem_singleton.1 ht]; exact hw, fun e => by subst e; rw [ofRoot_caps he ht] at hn; cases hn⟩
      exact ⟨row, by rw [hg, if_pos h1]; exact hv, rfl, rfl⟩
  -- a slot cannot speak of the root of the moment, which is none
  have hnoN : ∀ v x, XRep T w S st.r bx ph v x → ofRoot st.s.length x = false := fun v x hx => by
    cases x with
    | c c => rfl
    | mv t o =>
      obtain ⟨kk, m, h1, _⟩ := hx
      simp only [ofRoot, beq_eq_false_iff_ne]
      rintro rfl; rw [hsp] at h1; simp [Root.row] at h1
    | view t o =>
      obtain ⟨e, n, cells, h1, _⟩ := hx
      simp only [ofRoot, beq_eq_false_iff_ne]
      rintro rfl; rw [hsp] at h1; simp [Root.row] at h1
    | sub t o lo hi =>
      obtain ⟨e, n, cells, _, _, _, h1, _⟩ := hx
      simp only [ofRoot, beq_eq_false_iff_ne]
      rintro rfl; rw [hsp] at h1; simp [Root.row] at h1
    | ptr t o =>
      obtain ⟨row, h1, _⟩ := hx
      simp only [ofRoot, beq_eq_false_iff_ne]
      rintro rfl; rw [hsp] at h1; cases h1
    | eptr t o k =>
      obtain ⟨e, n, cells, _, _, h1, _⟩ := hx
      simp only [ofRoot, beq_eq_false_iff_ne]
      rintro rfl; rw [hsp] at h1; simp [Root.row] at h1
    | tv t o p =>
      obtain ⟨_, _, _, _, h1, _⟩ := hx
      simp only [ofRoot, beq_eq_false_iff_ne]
      rintro rfl; rw [hsp] at h1; simp [Root.row] at h1
    | tp t o p k off =>
      obtain ⟨_, _, _, _, _, _, _, _, _, h1, _⟩ := hx
      simp only [ofRoot, beq_eq_false_iff_ne]
      rintro rfl; rw [hsp] at h1; simp [Root.row] at h1
    | mem cells off => rfl
    | fn f caps =>
      obtain ⟨_, h1⟩ := hx
      cases hh : ofRoot st.s.length (.fn f caps) with
      | false => rfl
      | true =>
        simp only [ofRoot, List.contains_iff_mem] at hh
        obtain ⟨row, h2, _⟩ := h1 _ hh
        rw [hsp] at h2; cases h2
    | bfn f t =>
      obtain ⟨⟨row, h1, _⟩, _⟩ := hx
      simp only [ofRoot, beq_eq_false_iff_ne]
      rintro rfl; rw [hsp] at h1; cases h1
    | undef => rfl
  refine ⟨S, bx, ph, ⟨by rw [hlen]; exact h.size, ⟨by simp only [mask, List.length_map, List.length_zipIdx]; exact h.rsize.1, fun t ht => h.rsize.2 t (by rw [hlen] at ht; exact ht)⟩, h.defers, ⟨fun t => ?_, fun t κ t' κ' b h1 h2 => h.heap.inj _ _ _ _ b (hown _ _ _ h1) (hown _ _ _ h2), fun t κ b h1 => h.heap.free _ _ b (hown _ _ _ h1), h.heap.low⟩, fun t κ b h1 => h.mine _ _ b (hown _ _ _ h1), fun i hi => ?_, h.keep, h.new, h.chg⟩, ?_⟩
  · rw [hg]; split
    · exact h.heap.root t
    · trivial
  · rw [hlen] at hi
    have h1 := h.slot i hi
    simp only [mask, List.getD_eq_getElem?_getD, List.getElem?_map, List.getElem?_zipIdx, Nat.zero_add, List.getElem?_eq_getElem hi, Option.map_some, Option.getD_some] at h1 ⊢
    split
    · refine VRep.map _ (fun v x hxr => ?_) h1
      split
      · rename_i hw; exact hx v x hxr hw (hnoN v x hxr)
      · trivial
    · trivial
  · rw [hlen, hg, if_neg (fun hh => hh.2 rfl)]

theorem canon_le {ks : List (Nat × KS)} {bs : List Nat} (hc : canon T (std P T) ks bs st = some st') : Le T st st' := by
  have key : ∀ (ks : List (Nat × KS)) (st st' : St), canons T (std P T) st ks = some st' → Le T st st' := by
    intro ks
    induction ks with
    | nil => intro st st' h; simp only [canons, Option.some.injEq] at h; subst h; exact Le.refl T st
    | cons k ks ih =>
      intro st st' h
      obtain ⟨d, k⟩ := k
      unfold canons at h
      split at h
      · rename_i st1 h1
        exact fun w0 S0 F a w hr => ih st1 st' h w0 S0 F a w (canon1_le h1 w0 S0 F a w hr)
      · cases h
  unfold canon at hc
  split at hc
  · rename_i st1 h1
    cases hc
    exact fun w0 S0 F a w hr => mask_le _ _ st1 w0 S0 F a w (key ks st st1 h1 w0 S0 F a w hr)
  · cases hc
end Go.Proofs.Ytdmdcmhgfgookaa.A
