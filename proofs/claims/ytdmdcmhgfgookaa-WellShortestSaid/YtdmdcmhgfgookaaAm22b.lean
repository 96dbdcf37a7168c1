/- The ghost machine, part 22b: a call is sound. -/
import Derived.Test.YtdmdcmhgfgookaaAm22
set_option linter.unusedSimpArgs false
set_option linter.unusedVariables false
set_option maxRecDepth 100000
set_option maxHeartbeats 4000000
namespace Go.Proofs.Ytdmdcmhgfgookaa.A
open Go Go.RowKit
variable {P : Program} {T : TT} {w w' w0 : World} {S S0 : Nat → Prop} {F : Fr} {bx : Nat → Nat} {ph : Nat → Nat → Pv} {a : Act} {st st' : St}

/-- the place of a root among those that are handed over -/
def plc (ts : List (Option Nat)) (t : Nat) : Option Nat := if some t ∈ ts then some (placeIn ts t) else none
theorem plc_some {ts : List (Option Nat)} {t k : Nat} (hd : distinct ts = true) (h : ts[k]? = some (some t)) : plc ts t = some k := by
  have hm : some t ∈ ts := List.mem_of_getElem? h
  unfold plc
  rw [if_pos hm]
  congr 1
  exact distinct_inj ts hd _ _ t (placeIn_get ts t hm) h
theorem plc_none {ts : List (Option Nat)} {t : Nat} (h : some t ∉ ts) : plc ts t = none := by unfold plc; rw [if_neg h]

/-- what a call gives, laid over the state before it -/
theorem call_merge {st1 : St} {S1 S2 S3 : Nat → Prop} (h1 : Rel T w0 S0 F st1 a w S1 bx ph) (hsp : st1.r.getD st1.s.length .none = .none) {ts : List (Option Nat)} {R us : List Root} {ret : RV} {z : Value} {bx' : Nat → Nat} {ph' : Nat → Nat → Pv} {upd : List Root}
    (hd : distinct ts = true) (hN : some st1.s.length ∉ ts) (hfit : fitsR st1.r ts us = true) (hus : ∀ k, us.getD k .none = upd.getD k .none)
    (hg : Gives T w S2 R (fun k => bx (((ts[k]?).getD none).getD 0)) (fun k => ph (((ts[k]?).getD none).getD 0)) ret upd z w' S3 bx' ph')
    (hown : ∀ k κ b, owns R (fun k => bx (((ts[k]?).getD none).getD 0)) (fun k => ph (((ts[k]?).getD none).getD 0)) k κ b → ∃ t, ts[k]? = some (some t) ∧ owns st1.r bx ph t κ b)
    (hrow : ∀ o (ho : o < (ret.parts.flatMap (·.2)).length), RCRep T w' (fun b => S1 b ∨ (S3 b ∧ (w.heap.size ≤ b ∨ ∃ k κ, owns R (fun k => bx (((ts[k]?).getD none).getD 0)) (fun k => ph (((ts[k]?).getD none).getD 0)) k κ b))) (ph' 0 o) (ret.parts.flatMap (·.2))[o])
    (hupd : ∀ (k : Nat) (row : List RC), us[k]? = some (.box row) → ∀ o (ho : o < row.length), RCRep T w' (fun b => S1 b ∨ (S3 b ∧ (w.heap.size ≤ b ∨ ∃ k κ, owns R (fun k => bx (((ts[k]?).getD none).getD 0)) (fun k => ph (((ts[k]?).getD none).getD 0)) k κ b))) (ph' (k + 1) o) row[o]) :
    ∃ S4 ph2, Rel T w0 S0 F { s := kill (lostX ts) st1.s, r := (setRoots st1.r ts us).set st1.s.length (.loose (ret.parts.flatMap (·.2))) } a w' S4 bx ph2 ∧
      ((setRoots st1.r ts us).set st1.s.length (.loose (ret.parts.flatMap (·.2)))).getD st1.s.length .none = .loose (ret.parts.flatMap (·.2)) ∧ (∀ o, ph2 st1.s.length o = ph' 0 o) ∧ (∀ b, S4 b → S1 b ∨ S3 b) ∧
      (∀ t κ b, owns ((setRoots st1.r ts us).set st1.s.length (.loose (ret.parts.flatMap (·.2)))) bx ph2 t κ b → b < w.heap.size ∨ ∃ k κ', owns (.loose (ret.parts.flatMap (·.2)) :: upd) bx' ph' k κ' b) := by
  generalize hO : owns R (fun k => bx (((ts[k]?).getD none).getD 0)) (fun k => ph (((ts[k]?).getD none).getD 0)) = O at hown hrow hupd
  have hgm : ∀ t κ b, owns (.loose (ret.parts.flatMap (·.2)) :: upd) bx' ph' t κ b → w.heap.size ≤ b ∨ ∃ k κ, O k κ b := by subst hO; exact hg.mine
  have hgc : Chg (fun b => ∃ k κ, O k κ b) w w' := by subst hO; exact hg.chg
  obtain ⟨hul, huk⟩ := fits_get ts us hfit
  have hNr : st1.s.length < st1.r.length := by have := h1.rsize.1; omega
  have hlt : ∀ t, some t ∈ ts → t < st1.r.length := fun t ht => by
    obtain ⟨k, hk⟩ := List.getElem?_of_mem ht
    obtain ⟨row, row', _, h2, _⟩ := (huk k).1 t hk
    by_cases hh : t < st1.r.length
    · exact hh
    · rw [List.getD_eq_getElem?_getD, List.getElem?_eq_none (by omega)] at h2; cases h2
  have hg2 : ∀ v, ((setRoots st1.r ts us).set st1.s.length (.loose (ret.parts.flatMap (·.2)))).getD v .none = if v = st1.s.length then .loose (ret.parts.flatMap (·.2)) else (setRoots st1.r ts us).getD v .none := fun v => by
    rw [getD_set, setRoots_len]
    by_cases e1 : v = st1.s.length
    · subst e1; simp [hNr]
    · rw [if_neg (fun hh => e1 hh.1.symm), if_neg e1]
  let φ : Nat → Nat → Pv := fun t => if t = st1.s.length then ph' 0 else match plc ts t with | some k => ph' (k + 1) | none => ph t
  have hφN : φ st1.s.length = ph' 0 := if_pos rfl
  have hφT : ∀ t k, ts[k]? = some (some t) → φ t = ph' (k + 1) := fun t k hk => by
    have hne : t ≠ st1.s.length := fun e => hN (e ▸ List.mem_of_getElem? hk)
    show (if _ then _ else _) = _
    rw [if_neg hne, plc_some hd hk]
  have hφO : ∀ t, t ≠ st1.s.length → some t ∉ ts → φ t = ph t := fun t hne hm => by
    show (if _ then _ else _) = _
    rw [if_neg hne, plc_none hm]
  have hbxk : ∀ t k, ts[k]? = some (some t) → bx' (k + 1) = bx t := fun t k hk => by
    rw [hg.same k, hk]; rfl
  have hin : ∀ t k, ts[k]? = some (some t) → ∃ row row', us[k]? = some (.box row) ∧ st1.r.getD t .none = .box row' ∧ row.length = row'.length ∧ (setRoots st1.r ts us).getD t .none = .box row ∧ upd.getD k .none = .box row := fun t k hk => by
    obtain ⟨row, row', a1, a2, a3⟩ := (huk k).1 t hk
    refine ⟨row, row', a1, a2, a3, setRoots_in ts us st1.r hd hlt k t _ hk a1, ?_⟩
    rw [← hus k, List.getD_eq_getElem?_getD, a1]; rfl
  -- who owns what
  have hown2 : ∀ v κ b, owns ((setRoots st1.r ts us).set st1.s.length (.loose (ret.parts.flatMap (·.2)))) bx φ v κ b →
      (∃ k, (v = st1.s.length ∧ k = 0 ∨ ∃ j, k = j + 1 ∧ ts[j]? = some (some v)) ∧ owns (.loose (ret.parts.flatMap (·.2)) :: upd) bx' ph' k κ b) ∨ (v ≠ st1.s.length ∧ some v ∉ ts ∧ owns st1.r bx ph v κ b) := fun v κ b hb => by
    by_cases e1 : v = st1.s.length
    · subst e1
      refine .inl ⟨0, .inl ⟨rfl, rfl⟩, ?_⟩
      cases κ with
      | none => obtain ⟨row', k1, _⟩ := owns_box hb; rw [hg2, if_pos rfl] at k1; cases k1
      | some o =>
        obtain ⟨rc, k1, k2⟩ := owns_cell hb
        rw [hg2, if_pos rfl] at k1
        rw [hφN] at k2
        exact own_blk (r := .loose (ret.parts.flatMap (·.2)) :: upd) (t := 0) k1 k2
    · by_cases e2 : some v ∈ ts
      · obtain ⟨j, hj⟩ := List.getElem?_of_mem e2
        refine .inl ⟨j + 1, .inr ⟨j, rfl, hj⟩, ?_⟩
        obtain ⟨row, row', a1, a2, a3, a4, a5⟩ := hin v j hj
        unfold owns at hb ⊢
        rw [hg2, if_neg e1, a4, hφT v j hj] at hb
        rw [List.getD_cons_succ, a5]
        cases κ with
        | none => rw [hbxk v j hj]; exact hb
        | some o => exact hb
      · refine .inr ⟨e1, e2, ?_⟩
        unfold owns at hb ⊢
        rw [hg2, if_neg e1, setRoots_out ts us st1.r v e2, hφO v e1 e2] at hb
        exact hb
  have hOlt : ∀ k κ b, O k κ b → b < w.heap.size := fun k κ b hb => by
    obtain ⟨t, _, h3⟩ := hown k κ b hb; exact (h1.heap.free t κ b h3).2
  have hOout : ∀ v κ b, owns st1.r bx ph v κ b → some v ∉ ts → ¬ ∃ k κ, O k κ b := fun v κ b hb hv ⟨k, κ', ho⟩ => by
    obtain ⟨t, h2, h3⟩ := hown k κ' b ho
    obtain ⟨e, _⟩ := h1.heap.inj _ _ _ _ b hb h3
    subst e; exact hv (List.mem_of_getElem? h2)
  have hS1keep : ∀ b, S1 b → w'.heap[b]? = w.heap[b]? := fun b hb => hgc.block b (h1.heap.low.1 b hb) fun ⟨k, κ, ho⟩ => by
    obtain ⟨t, _, h3⟩ := hown k κ b ho; exact (h1.heap.free t κ b h3).1 hb
  have hOkeep : ∀ v κ b, owns st1.r bx ph v κ b → some v ∉ ts → w'.heap[b]? = w.heap[b]? := fun v κ b hb hv => hgc.block b (h1.heap.free v κ b hb).2 (hOout v κ b hb hv)
  -- roots with the same place
  have hplace : ∀ {v v2 k : Nat}, (v = st1.s.length ∧ k = 0 ∨ ∃ j, k = j + 1 ∧ ts[j]? = some (some v)) → (v2 = st1.s.length ∧ k = 0 ∨ ∃ j, k = j + 1 ∧ ts[j]? = some (some v2)) → v = v2 := fun h2 h3 => by
    rcases h2 with ⟨rfl, rfl⟩ | ⟨j, rfl, hj⟩ <;> rcases h3 with ⟨rfl, h4⟩ | ⟨j', h4, hj'⟩
    · rfl
    · omega
    · omega
    · have : j = j' := by omega
      subst this
      rw [hj] at hj'; cases hj'; rfl
  refine ⟨fun b => S1 b ∨ (S3 b ∧ (w.heap.size ≤ b ∨ ∃ k κ, O k κ b)), φ, ⟨by simp [kill, h1.size], ⟨by simp only [kill, List.length_map, List.length_set, setRoots_len]; exact h1.rsize.1, fun t ht => h1.rsize.2 t (by simpa [kill] using ht)⟩, h1.defers,
    ⟨fun v => ?_, fun v κ v2 κ2 b b1 b2 => ?_, fun v κ b b1 => ?_, ⟨fun b hb => ?_, h1.heap.low.2.frame hS1keep (fun _ h => .inl h)⟩⟩, fun v κ b b1 => ?_, ?_, fun b hb => .inl (h1.keep b hb), fun b hb => ?_, ?_⟩, by rw [hg2, if_pos rfl], (fun o => by rw [hφN]), (fun b hb => hb.imp id And.left), (fun v κ b hb => by
      rcases hown2 v κ b hb with ⟨k, _, c1⟩ | ⟨_, _, c1⟩
      · exact .inr ⟨k, κ, c1⟩
      · exact .inl (h1.heap.free v κ b c1).2)⟩
  · show RootRep T w' _ (bx v) (φ v) (((setRoots st1.r ts us).set st1.s.length (.loose (ret.parts.flatMap (·.2)))).getD v .none)
    rw [hg2]
    by_cases e1 : v = st1.s.length
    · rw [if_pos e1, e1, hφN]; exact hrow
    · rw [if_neg e1]
      by_cases e2 : some v ∈ ts
      · obtain ⟨j, hj⟩ := List.getElem?_of_mem e2
        obtain ⟨row, row', a1, a2, a3, a4, a5⟩ := hin v j hj
        rw [a4, hφT v j hj, ← hbxk v j hj]
        have hr := hg.heap.root (j + 1)
        rw [List.getD_cons_succ, a5] at hr
        exact ⟨hr.1, fun o ho => hupd j row a1 o ho, hr.2.2⟩
      · rw [setRoots_out ts us st1.r v e2, hφO v e1 e2]
        refine (h1.heap.root v).frame2 hS1keep (fun _ h => .inl h) (fun row hR => hOkeep v none _ (owns_of_box hR) e2) fun o rc b hrc hb => hOkeep v (some o) b (own_blk hrc hb) e2
  · rcases hown2 v κ b b1 with ⟨k, hk, c1⟩ | ⟨n1, n2, c1⟩ <;> rcases hown2 v2 κ2 b b2 with ⟨k2, hk2, c2⟩ | ⟨m1, m2, c2⟩
    · obtain ⟨e1, e2⟩ := hg.heap.inj _ _ _ _ b c1 c2
      subst e1
      exact ⟨hplace hk hk2, e2⟩
    · rcases hgm _ _ b c1 with h3 | h3
      · exact absurd (h1.heap.free _ _ b c2).2 (by omega)
      · exact absurd h3 (hOout _ _ b c2 m2)
    · rcases hgm _ _ b c2 with h3 | h3
      · exact absurd (h1.heap.free _ _ b c1).2 (by omega)
      · exact absurd h3 (hOout _ _ b c1 n2)
    · exact h1.heap.inj _ _ _ _ b c1 c2
  · rcases hown2 v κ b b1 with ⟨k, hk, c1⟩ | ⟨n1, n2, c1⟩
    · have hf := hg.heap.free _ _ b c1
      refine ⟨fun hs => ?_, hf.2⟩
      rcases hs with hs | hs
      · rcases hgm _ _ b c1 with h3 | ⟨k', κ', h3⟩
        · exact absurd (h1.heap.low.1 b hs) (by omega)
        · obtain ⟨t, _, h4⟩ := hown _ _ _ h3
          exact (h1.heap.free _ _ b h4).1 hs
      · exact hf.1 hs.1
    · have hf := h1.heap.free _ _ b c1
      refine ⟨fun hs => ?_, Nat.lt_of_lt_of_le hf.2 hgc.size⟩
      rcases hs with hs | ⟨_, hs | hs⟩
      · exact hf.1 hs
      · omega
      · exact hOout _ _ b c1 n2 hs
  · rcases hb with hb | hb
    · exact Nat.lt_of_lt_of_le (h1.heap.low.1 b hb) hgc.size
    · exact hg.heap.low.1 b hb.1
  · rcases hown2 v κ b b1 with ⟨k, hk, c1⟩ | ⟨n1, n2, c1⟩
    · rcases hgm _ _ b c1 with h3 | ⟨k', κ', h3⟩
      · exact .inl (Nat.le_trans h1.chg.size h3)
      · obtain ⟨t, _, h4⟩ := hown _ _ _ h3
        exact h1.mine _ _ b h4
    · exact h1.mine _ _ b c1
  · refine slots_map (fun x => if lostX ts x then .undef else x) (fun v x hx => ?_) h1.slot
    split
    · trivial
    · rename_i hl
      have hl' : lostX ts x = false := by simpa using hl
      refine (hx.frame hS1keep (fun _ h => .inl h)).congr (fun t o rc hc ho hv => ?_) (fun t o he row hv hp => ?_) (fun f caps he t ht row hv => ?_)
      · have n1 : t ≠ st1.s.length := fun e1 => by subst e1; rw [hsp] at hv; simp [Root.row] at hv
        have n2 := lost_cell hl' hc
        refine ⟨?_, by rw [hφO t n1 n2]⟩
        show (((setRoots st1.r ts us).set st1.s.length (.loose (ret.parts.flatMap (·.2)))).getD t .none).row[o]? = _
        rw [hg2, if_neg n1, setRoots_out ts us st1.r t n2]; exact hv
      · have n1 : t ≠ st1.s.length := fun e1 => by subst e1; rw [hsp] at hv; cases hv
        by_cases e2 : some t ∈ ts
        · obtain ⟨j, hj⟩ := List.getElem?_of_mem e2
          obtain ⟨row2, row', a1, a2, a3, a4, a5⟩ := hin t j hj
          rw [hv] at a2; cases a2
          exact ⟨row2, by show ((setRoots st1.r ts us).set st1.s.length _).getD t .none = _; rw [hg2, if_neg n1]; exact a4, by omega, rfl⟩
        · exact ⟨row, by show ((setRoots st1.r ts us).set st1.s.length _).getD t .none = _; rw [hg2, if_neg n1, setRoots_out ts us st1.r t e2]; exact hv, hp, rfl⟩
      · have n1 : t ≠ st1.s.length := fun e1 => by subst e1; rw [hsp] at hv; cases hv
        by_cases e2 : some t ∈ ts
        · obtain ⟨j, hj⟩ := List.getElem?_of_mem e2
          obtain ⟨row2, row', a1, a2, a3, a4, a5⟩ := hin t j hj
          rw [hv] at a2; cases a2
          exact ⟨row2, by show ((setRoots st1.r ts us).set st1.s.length _).getD t .none = _; rw [hg2, if_neg n1]; exact a4, a3, rfl⟩
        · exact ⟨row, by show ((setRoots st1.r ts us).set st1.s.length _).getD t .none = _; rw [hg2, if_neg n1, setRoots_out ts us st1.r t e2]; exact hv, rfl, rfl⟩
  · rcases hb with hb | ⟨hb, h3 | ⟨k, κ, h3⟩⟩
    · exact h1.new b hb
    · exact .inr (.inl (Nat.le_trans h1.chg.size h3))
    · obtain ⟨t, _, h4⟩ := hown _ _ _ h3
      exact .inr (h1.mine _ _ b h4)
  · refine ⟨hgc.os.trans h1.chg.os, hgc.tape.trans h1.chg.tape, hgc.output.trans h1.chg.output, Nat.le_trans h1.chg.size hgc.size, fun b hb hF => ?_⟩
    rw [hgc.block b (Nat.lt_of_lt_of_le hb h1.chg.size) fun ⟨k, κ, ho⟩ => by
      obtain ⟨t, _, h4⟩ := hown _ _ _ ho
      rcases h1.mine _ _ b h4 with h5 | h5
      · omega
      · exact hF h5]
    exact h1.chg.block b hb hF
theorem fitsR_congr {r r' : List Root} : ∀ (ts : List (Option Nat)) (us : List Root), (∀ t, some t ∈ ts → r'.getD t .none = r.getD t .none) → fitsR r' ts us = fitsR r ts us := by
  intro ts
  induction ts with
  | nil => intro us _; cases us <;> rfl
  | cons x ts ih =>
    intro us h
    have ih' := ih us.tail (fun t ht => h t (List.mem_cons_of_mem _ ht))
    cases us with
    | nil => cases x <;> rfl
    | cons u us =>
      cases x with
      | none => cases u <;> first | rfl | exact ih'
      | some t =>
        cases u with
        | none => rfl
        | loose _ => rfl
        | box row =>
          have e := h t (List.mem_cons_self ..)
          simp only [fitsR, rootOf, e]
          rw [show fitsR r' ts us = fitsR r ts us from ih']
theorem plain_rep {S' : Nat → Prop} {v : Pv} {rc : RC} (h : RCRep T w S v rc) (h2 : RC.slicy T rc = false) (h3 : RC.plainObl (std P T) rc) : RCRep T w S' v rc := by
  cases rc with
  | st c =>
    cases c with
    | val u => obtain ⟨q1, q2⟩ := crep_val h; show CRep w S' v.v _; rw [q1]; exact CRep.val q2
    | sl n cells => simp [RC.slicy] at h2
    | nil => simp [RC.slicy] at h2
    | mem cells off => simp [RC.slicy] at h2
    | map kk ks vs => simp [RC.slicy] at h2
  | own e n cells =>
    obtain ⟨xs, x1, x2, x3⟩ := h
    refine ⟨xs, x1, x2, fun k hk hk2 => ?_⟩
    obtain ⟨v, hv⟩ := h3 cells[k] (List.getElem_mem hk)
    have := x3 k hk hk2
    rw [hv] at this ⊢
    obtain ⟨q1, q2⟩ := crep_val this
    rw [q1]; exact CRep.val q2
  | map kk m => simp [RC.slicy] at h2
  | tree sh c p => simp [RC.slicy] at h2
  | me f => trivial
  | dead => trivial
theorem tsOf_get {args : List V} {k : Nat} (h : k < args.length) : (tsOf args)[k]? = some (ptrOf args[k]) := by
  unfold tsOf
  rw [List.getElem?_append_left (by simpa using h)]; simp [h]
theorem call_sound (h : Rel T w0 S0 F st a w S bx ph) (hsp : st.r.getD st.s.length .none = .none) {f : FuncId} {vs : List Value} {args : List V} {cr : RV × List Root} {vf : Nat → V} {st1 : St} {obl : List Prop}
    (hl : vs.length = args.length) (hv : ∀ k (h1 : k < args.length) (h2 : k < vs.length), VRep T w S st.r bx ph vs[k] args[k])
    (hp : callOp T (std P T) st f args cr = some (vf, st1, obl)) (ho : ∀ p ∈ obl, p) {dst : Option Nat} (hdst : ∀ k, dst = some k → k < st.s.length) :
    Enters P f ∧ Calls P f vs.toArray w fun e w' => ∃ z, e = .returned z ∧ Rels T w0 S0 F (fin st1 dst vf) (a.put dst z) w' ∧ ((tsOf args).all Option.isNone = true → Old w w') := by
  unfold callOp at hp
  dsimp only at hp
  generalize hts : tsOf args = ts at hp
  split at hp
  · rename_i as vts has hvs
    generalize hus : (if cr.2.isEmpty then ts.map fun _ => Root.none else cr.2) = us at hp
    split at hp
    · rename_i hcond
      simp only [Bool.and_eq_true, Bool.not_eq_true'] at hcond
      obtain ⟨⟨hd, hfit⟩, hN⟩ := hcond
      have hN' : some st.s.length ∉ ts := fun hm => by rw [List.contains_iff_mem.2 hm] at hN; cases hN
      have has2 := optAll_some _ _ has
      have hal : as.length = args.length := by have := congrArg List.length has2; simpa using this.symm
      have hargs : ∀ k (h1 : k < as.length) (h2 : k < args.length), argOf T (std P T) st.r ts args[k] = some as[k] := fun k h1 h2 => by
        have := congrArg (fun l => l[k]?) has2
        simpa only [List.getElem?_map, List.getElem?_eq_getElem h1, List.getElem?_eq_getElem h2, Option.map_some, Option.some.injEq] using this
      have hvs2 := optAll_some _ _ hvs
      have hvl : vts.length = (ts.drop args.length).length := by have := congrArg List.length hvs2; simpa using this.symm
      have hvirt : ∀ k (h1 : k < vts.length) (h2 : k < (ts.drop args.length).length), virtOf st.r (ts.drop args.length)[k] = some vts[k] := fun k h1 h2 => by
        have := congrArg (fun l => l[k]?) hvs2
        simpa only [List.getElem?_map, List.getElem?_eq_getElem h1, List.getElem?_eq_getElem h2, Option.map_some, Option.some.injEq] using this
      have htl : args.length ≤ ts.length := by rw [← hts]; unfold tsOf; simp
      have htk : ∀ k (h1 : k < args.length), ts[k]? = some (ptrOf args[k]) := fun k h1 => by rw [← hts]; exact tsOf_get h1
      -- the frozen state
      obtain ⟨S', hf, hcr⟩ := freezeAll_sound (P := P) ((args.flatMap cellsOfV).filter fun x => !handed ts x) h
      generalize hstf : ((args.flatMap cellsOfV).filter fun x => !handed ts x).foldl (freezeX T (std P T)) st = stf at hf hp
      have hother : ∀ t, some t ∈ ts → stf.r.getD t .none = st.r.getD t .none := fun t ht => by
        rw [← hstf]
        refine freezeAll_other _ _ fun x hx he => ?_
        have := (List.mem_filter.1 hx).2
        simp only [handed, he, List.contains_iff_mem.2 ht, Bool.not_true, Bool.false_eq_true] at this
      -- the callee's roots
      have hR : ∀ k, ((as ++ vts).map Arg.asRoot).getD k .none = match (ts[k]?).getD none with | some t => stf.r.getD t .none | none => .none := fun k => by
        rw [List.getD_eq_getElem?_getD, List.getElem?_map]
        by_cases h1 : k < args.length
        · rw [List.getElem?_append_left (by omega), List.getElem?_eq_getElem (show k < as.length by omega), htk k h1]
          have h2 := (arg_root (hargs k (by omega) h1)).2
          simp only [Option.map_some, Option.getD_some]
          rw [h2]
          cases hpt : ptrOf args[k] with
          | none => rfl
          | some t =>
            dsimp only
            exact (hother t (by rw [← hpt]; exact List.mem_of_getElem? (htk k h1))).symm
        · rw [List.getElem?_append_right (by omega), hal]
          by_cases h2 : k - args.length < vts.length
          · have h3 : k - args.length < (ts.drop args.length).length := by omega
            rw [List.getElem?_eq_getElem h2]
            obtain ⟨_, t, h4, h5⟩ := virt_root (hvirt _ h2 h3)
            have h6 : ts[k]? = some (some t) := by
              have : (ts.drop args.length)[k - args.length]? = some (some t) := by rw [List.getElem?_eq_getElem h3, h4]
              rw [List.getElem?_drop] at this
              rwa [show args.length + (k - args.length) = k by omega] at this
            rw [h6]
            simp only [Option.map_some, Option.getD_some]
            rw [h5]
            exact (hother t (List.mem_of_getElem? h6)).symm
          · rw [List.getElem?_eq_none (by omega), List.getElem?_eq_none (by simp at hvl; omega)]
            rfl
      have hinj : ∀ k k' t : Nat, (ts[k]?).getD none = some t → (ts[k']?).getD none = some t → k = k' := fun k k' t a1 a2 => by
        have key : ∀ k : Nat, (ts[k]?).getD none = some t → ts[k]? = some (some t) := fun k hk => by
          cases hq : ts[k]? with
          | none => rw [hq] at hk; cases hk
          | some x => rw [hq] at hk; exact congrArg some hk
        exact distinct_inj ts hd _ _ t (key k a1) (key k' a2)
      obtain ⟨hsub, hsown⟩ := hf.rel.heap.sub (τ := fun k => (ts[k]?).getD none) hR hinj
      have hreal : reals (as ++ vts) = vs.length := by
        unfold reals
        rw [List.filter_append, List.filter_eq_self.2 (fun x hx => ?_), List.filter_eq_nil_iff.2 (fun x hx => ?_), List.append_nil, hal, hl]
        · obtain ⟨k, hk, rfl⟩ := List.mem_iff_getElem.1 hx
          rw [(virt_root (hvirt k hk (by omega))).1]; simp
        · obtain ⟨k, hk, rfl⟩ := List.mem_iff_getElem.1 hx
          exact (arg_root (hargs k hk (by omega))).1
      have hrep : ∀ i (h1 : i < (as ++ vts).length) (h2 : i < vs.length), ArgRep w S' (fun k => bx (((ts[k]?).getD none).getD 0)) (bx (((ts[i]?).getD none).getD 0)) vs[i] (as ++ vts)[i] := fun i h1 h2 => by
        have h3 : i < args.length := by omega
        rw [List.getElem_append_left (show i < as.length by omega)]
        refine arg_sound (ts := ts) (bxs := fun k => bx (((ts[k]?).getD none).getD 0)) (k := i) (hv i h3 h2) (hargs i (by omega) h3) (fun j t hj => by simp [hj]) (fun t ht => ?_) (fun t ht => ?_) (fun y hy hh u c hu hc => ?_)
        · rw [← hts]; exact caps_in (List.mem_flatMap.2 ⟨_, List.getElem_mem h3, ht⟩)
        · rw [htk i h3, ht]
        · exact hcr y (List.mem_filter.2 ⟨List.mem_flatMap.2 ⟨_, List.getElem_mem h3, hy⟩, by simp [hh]⟩) u c hu hc
      have hown1 : ∀ k κ b, owns ((as ++ vts).map Arg.asRoot) (fun k => bx (((ts[k]?).getD none).getD 0)) (fun k => ph (((ts[k]?).getD none).getD 0)) k κ b → ∃ t, ts[k]? = some (some t) ∧ owns stf.r bx ph t κ b := fun k κ b hb => by
        obtain ⟨t, h1, h2⟩ := hsown k κ b hb
        refine ⟨t, ?_, h2⟩
        have h1' : (ts[k]?).getD none = some t := h1
        cases hq : ts[k]? with
        | none => rw [hq] at h1'; cases h1'
        | some x => rw [hq] at h1'; exact congrArg some h1'
      have hcall : ∀ {Q : Ending → World → Prop}, PC P T f (as ++ vts) cr.1 cr.2 → (∀ z w' S'' bx' ph', Gives T w S' ((as ++ vts).map Arg.asRoot) (fun k => bx (((ts[k]?).getD none).getD 0)) (fun k => ph (((ts[k]?).getD none).getD 0)) cr.1 cr.2 z w' S'' bx' ph' → Q (.returned z) w') → Calls P f vs.toArray w Q := fun hpc hQ =>
        (hpc w S' _ _ vs hsub hreal.symm (fun i h1 h2 => hrep i h1 h2)).mono fun e w' ⟨v, S'', bx', ph', he, hg⟩ => by subst he; exact hQ v w' S'' bx' ph' hg
      have husg : ∀ k, us.getD k .none = cr.2.getD k .none := fun k => by
        rw [← hus]
        split
        · rename_i he
          rw [List.isEmpty_iff.1 he]
          simp only [List.getD_eq_getElem?_getD, List.getElem?_map]
          cases ts[k]? <;> rfl
        · rfl
      have hold : ∀ {z w' S'' bx' ph'}, Gives T w S' ((as ++ vts).map Arg.asRoot) (fun k => bx (((ts[k]?).getD none).getD 0)) (fun k => ph (((ts[k]?).getD none).getD 0)) cr.1 cr.2 z w' S'' bx' ph' → ts.all Option.isNone = true → Old w w' := fun hg hall b hb => hg.chg.block b hb fun ⟨k, κ, hk⟩ => by
        obtain ⟨t, h1, _⟩ := hown1 k κ b hk
        have := List.all_eq_true.1 hall _ (List.mem_of_getElem? h1)
        cases this
      have hfinal : ∀ {st2 : St} {S1 : Nat → Prop}, Rel T w0 S0 F st2 a w S1 bx ph → st2.s.length = st.s.length → st2.r.getD st.s.length .none = .none → fitsR st2.r ts us = true →
          (∀ k κ b, owns ((as ++ vts).map Arg.asRoot) (fun k => bx (((ts[k]?).getD none).getD 0)) (fun k => ph (((ts[k]?).getD none).getD 0)) k κ b → ∃ t, ts[k]? = some (some t) ∧ owns st2.r bx ph t κ b) →
          ∀ {z w' S'' bx' ph'}, Gives T w S' ((as ++ vts).map Arg.asRoot) (fun k => bx (((ts[k]?).getD none).getD 0)) (fun k => ph (((ts[k]?).getD none).getD 0)) cr.1 cr.2 z w' S'' bx' ph' →
          (∀ rc ∈ (cr.1.parts.flatMap (·.2)) ++ us.flatMap Root.row, ∀ v, RCRep T w' S'' v rc → RCRep T w' (fun b => S1 b ∨ (S'' b ∧ (w.heap.size ≤ b ∨ ∃ k κ, owns ((as ++ vts).map Arg.asRoot) (fun k => bx (((ts[k]?).getD none).getD 0)) (fun k => ph (((ts[k]?).getD none).getD 0)) k κ b))) v rc) →
          Rels T w0 S0 F (fin { s := kill (lostX ts) st2.s, r := (setRoots st2.r ts us).set st.s.length (.loose (cr.1.parts.flatMap (·.2))) } dst (fun d => retV d cr.1)) (a.put dst z) w' := by
        intro st2 S1 h2 hlen hsp2 hfit2 hown2 z w' S'' bx' ph' hg hcells
        have hmerge := call_merge h2 (by rw [hlen]; exact hsp2) (ret := cr.1) hd (by rw [hlen]; exact hN') hfit2 husg hg hown2
          (fun o ho => hcells _ (List.mem_append_left _ (List.getElem_mem ho)) _ (hg.heap.root 0 o ho))
          (fun k row hk o ho => by
            have h3 := hg.heap.root (k + 1)
            rw [List.getD_cons_succ, ← husg k, List.getD_eq_getElem?_getD, hk] at h3
            exact hcells _ (List.mem_append_right _ (List.mem_flatMap.2 ⟨_, List.mem_of_getElem? hk, List.getElem_mem ho⟩)) _ (h3.2.1 o ho))
        rw [hlen] at hmerge
        obtain ⟨S4, ph2, h5, h6, h7, _, _⟩ := hmerge
        have hkl : (kill (lostX ts) st2.s).length = st.s.length := by simp [kill, hlen]
        refine fin_sound h5 (fun k hk => by show k < (kill (lostX ts) st2.s).length; rw [hkl]; exact hdst k hk) (fun k bx2 ph3 hk e1 e2 e3 hheap => ?_)
        have e1' : ∀ o, ph3 k o = ph2 st.s.length o := fun o => by rw [e1 o]; show ph2 (kill (lostX ts) st2.s).length o = _; rw [hkl]
        have e3' := e3
        rw [show ({ s := kill (lostX ts) st2.s, r := (setRoots st2.r ts us).set st.s.length (.loose (cr.1.parts.flatMap (·.2))) } : St).s.length = st.s.length from hkl] at e3'
        refine retV_sound (row := cr.1.parts.flatMap (·.2)) (φ := ph' 0) rfl (fun o rc hrc => ?_) hg.val
        have e5 := e3'.trans h6
        have h9 : ph3 k o = ph' 0 o := by rw [e1' o, h7 o]
        rw [← h9]
        refine rcX_sound (st := name { s := kill (lostX ts) st2.s, r := (setRoots st2.r ts us).set st.s.length (.loose (cr.1.parts.flatMap (·.2))) } k) hheap ?_
        rw [e5]; exact hrc
      split at hp
      · simp only [Option.some.injEq, Prod.mk.injEq] at hp
        obtain ⟨rfl, rfl, rfl⟩ := hp
        obtain ⟨hen, hpc⟩ : Enters P f ∧ PC P T f (as ++ vts) cr.1 cr.2 := ho _ (List.mem_cons_self ..)
        refine ⟨hen, hcall hpc fun z w' S'' bx' ph' hg => ⟨z, rfl, ?_, hold hg⟩⟩
        refine hfinal hf.rel hf.len (hf.spare _ hsp) (by rw [fitsR_congr ts us hother]; exact hfit) hown1 hg fun rc _ v hrc => hrc.frame (fun _ _ => rfl) (fun b hb => ?_) (fun _ _ => rfl)
        rcases hg.new b hb with h1 | h1 | h1
        · exact .inl h1
        · exact .inr ⟨hb, .inl h1⟩
        · exact .inr ⟨hb, .inr h1⟩
      · rename_i hns
        simp only [Option.some.injEq, Prod.mk.injEq] at hp
        obtain ⟨rfl, rfl, rfl⟩ := hp
        obtain ⟨hen, hpc⟩ : Enters P f ∧ PC P T f (as ++ vts) cr.1 cr.2 := ho _ (List.mem_cons_self ..)
        refine ⟨hen, hcall hpc fun z w' S'' bx' ph' hg => ⟨z, rfl, ?_, hold hg⟩⟩
        refine hfinal h rfl hsp hfit (fun k κ b hb => ?_) hg fun rc hrc v hv' => plain_rep (P := P) hv' ?_ (ho _ (List.mem_cons_of_mem _ (List.mem_map.2 ⟨rc, hrc, rfl⟩)))
        · obtain ⟨t, h1, h2⟩ := hown1 k κ b hb
          refine ⟨t, h1, ?_⟩
          unfold owns at h2 ⊢
          rw [hother t (List.mem_of_getElem? h1)] at h2
          exact h2
        · cases hh : RC.slicy T rc with
          | false => rfl
          | true => exact absurd (List.any_eq_true.2 ⟨_, hrc, hh⟩) hns
    · cases hp
  · cases hp
end Go.Proofs.Ytdmdcmhgfgookaa.A
