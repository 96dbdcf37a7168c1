/- The ghost machine, part 14: alloc, box, slices built and made, bytes of a string. -/
import Derived.Test.YtdmdcmhgfgookaaAm13
import Derived.Great.BuildSlice
import Derived.Laws.IdiomStrings
set_option linter.unusedSimpArgs false
set_option linter.unusedVariables false
set_option maxRecDepth 100000
set_option maxHeartbeats 4000000
namespace Go.Proofs.Ytdmdcmhgfgookaa.A
open Go Go.RowKit
variable {P : Program} {T : TT} {w w' w0 : World} {S S0 : Nat → Prop} {F : Fr} {bx : Nat → Nat} {ph : Nat → Nat → Pv} {a : Act} {st st' : St}

def Old (w w' : World) : Prop := ∀ b, b < w.heap.size → w'.heap[b]? = w.heap[b]?

theorem box_core (h : Rel T w0 S0 F st a w S bx ph) (hsp : st.r.getD st.s.length .none = .none) {v : Value} {V : V} (hv : VRep T w S st.r bx ph v V) (hne : cellsOfV V ≠ []) {st2 : St} (hp : pushAll T (std P T) st (cellsOfV V) = some st2) (hme : (rootOf st2.r st.s.length).row.any RC.isMe = false)
    {dst : Option Nat} (hd : ∀ k, dst = some k → k < st.s.length) (e : TypeId) :
    Rels T w0 S0 F (fin (toBox st2) dst (fun d => .one (.ptr d 0))) (a.put dst (.pointer (some ⟨w.heap.size, 0, none⟩))) (w.alloc (.cells v.cells e)) := by
  have hx := cellsOf_sound h.heap hv hne
  have hb : ∀ row, st.r.getD st.s.length .none ≠ .box row := by rw [hsp]; exact fun _ h => by cases h
  obtain ⟨ph', q⟩ := pushAll_sound (cellsOfV V) v.cells.toList st ph h hb (by rw [Array.length_toList]; exact hx.1) (fun k hk hk2 => by simpa using hx.2 k hk (by simpa using hk2)) hp
  obtain ⟨rcs, r1, r2⟩ := q.row
  have hl0 : (st.r.getD st.s.length .none).row = [] := by rw [hsp]; rfl
  rw [hl0, List.nil_append] at r2
  have hpos : 0 < rcs.length := by
    rw [r1, Array.length_toList, hx.1]
    cases hh : cellsOfV V with
    | nil => exact absurd hh hne
    | cons x l => simp
  obtain ⟨t1, t2⟩ := toBox_sound (cs := v.cells) (e := e) (row := rcs) q.rel (by rw [q.len]; exact r2) (by rw [q.len]; exact q.loose) (by rw [r1]; simp) (fun o ho => by
    have h3 := q.vals o (by rw [← r1]; exact ho)
    rw [hl0] at h3
    simp only [List.length_nil, Nat.zero_add] at h3
    rw [q.len, h3]
    have : o < v.cells.size := by rw [r1] at ho; simpa using ho
    simp [this]) (by rw [show (rootOf st2.r st.s.length).row = rcs from r2] at hme; exact hme)
  refine fin_sound t1 (fun k hk => by show k < st2.s.length; rw [q.len]; exact hd k hk) (fun k bx' ph2 hk h1 h2 h3 _ => ?_)
  have hs : (toBox st2).s.length = st2.s.length := rfl
  rw [hs] at h2 h3
  refine ⟨rcs, ?_, hpos, ?_⟩
  · rw [h3]; exact t2
  · rw [h2, if_pos rfl]

theorem old_alloc (o : Obj) : Old w (w.alloc o) := fun b hb => Below.heap_alloc w o b hb

/-! ### slices built of their elements -/
theorem fill_range {sz : Nat} : ∀ (vs : List Value) (k : Nat) (ps : List (Nat × Value)) (cells : Array Value), ps.map (·.1) = (List.range vs.length).map (k + ·) → ps.map (·.2) = vs → cells.size = (k + vs.length) * sz → (∀ v ∈ vs, v.cells.size = sz) →
    ∃ cells', Instr.fill (fun i => some (i * sz, sz)) cells ps = some cells' ∧ cells'.toList = cells.toList.take (k * sz) ++ (vs.map fun v => v.cells.toList).flatten := by
  intro vs
  induction vs with
  | nil =>
    intro k ps cells h1 h2 h3 _
    have : ps = [] := by cases ps with | nil => rfl | cons p l => simp at h2
    subst this
    refine ⟨cells, rfl, ?_⟩
    rw [List.take_of_length_le (by simp [h3])]; simp
  | cons v vs ih =>
    intro k ps cells h1 h2 h3 h4
    cases ps with
    | nil => simp at h2
    | cons p ps =>
      obtain ⟨i, u⟩ := p
      simp only [List.map_cons, List.cons.injEq] at h2
      obtain ⟨rfl, h2⟩ := h2
      rw [List.length_cons, List.range_succ_eq_map, List.map_cons, List.map_cons] at h1
      simp only [List.cons.injEq, Nat.add_zero] at h1
      obtain ⟨rfl, h1⟩ := h1
      have hu : u.cells.size = sz := h4 u (List.mem_cons_self ..)
      obtain ⟨s1, s2⟩ := splice_get (i * sz) u.cells.toList 0 cells
      have e1 : u.cells.zipIdx.foldl (fun cs p => cs.setIfInBounds (i * sz + p.2) p.1) cells = (u.cells.toList.zipIdx 0).foldl (fun cs p => cs.setIfInBounds (i * sz + p.2) p.1) cells := by
        rw [← Array.foldl_toList]; simp
      have hsz : (i + (vs.length + 1)) * sz = i * sz + sz + vs.length * sz := by
        rw [Nat.add_mul, Nat.add_mul]; omega
      have hcs : cells.size = i * sz + sz + vs.length * sz := by rw [h3, List.length_cons, hsz]
      obtain ⟨cells', f1, f2⟩ := ih (i + 1) ps _ (by rw [h1, List.map_map]; apply List.map_congr_left; intro x _; simp; omega) h2 (by rw [s1, hcs, Nat.add_mul, Nat.add_mul]; omega) (fun v hv => h4 v (List.mem_cons_of_mem _ hv))
      refine ⟨cells', ?_, ?_⟩
      · simp only [Instr.fill]
        rw [if_neg (by
          simp only [ne_eq, Bool.or_eq_true, decide_eq_true_eq, not_or]
          exact ⟨by simpa using hu, by omega⟩), e1]
        exact f1
      · rw [f2, List.map_cons, List.flatten_cons, ← List.append_assoc]
        congr 1
        apply List.ext_getElem?
        intro j
        have h5 := s2 j
        simp only [Nat.add_zero, Array.length_toList] at h5
        rw [Nat.add_mul, Nat.one_mul, List.getElem?_take]
        by_cases hj : j < i * sz + sz
        · rw [if_pos hj, Array.getElem?_toList, h5]
          by_cases hj2 : i * sz ≤ j
          · rw [if_pos ⟨hj2, by omega, by omega⟩, List.getElem?_append_right (by simp; omega)]
            congr 1
            simp only [List.length_take, Array.length_toList]; omega
          · rw [if_neg (by omega), List.getElem?_append_left (by simp; omega), List.getElem?_take, if_pos (by omega)]
            simp
        · rw [if_neg hj, List.getElem?_eq_none]
          simp; omega

theorem optAll_some {α : Type} : ∀ (l : List (Option α)) (r : List α), optAll l = some r → l = r.map some := by
  intro l
  induction l with
  | nil => intro r h; simp [optAll] at h; subst h; rfl
  | cons x l ih =>
    intro r h
    cases x with
    | none => simp [optAll] at h
    | some x =>
      unfold optAll at h
      split at h
      · rename_i l' hl
        cases h
        rw [ih l' hl]; rfl
      · cases h

/-- stable cells behind freezing -/
theorem stab_all (h : Rel T w0 S0 F st a w S bx ph) {xs : List X} {vs : List Value} {cs : List C} (hl : vs.length = xs.length) (hx : ∀ k (h : k < xs.length) (h2 : k < vs.length), XRep T w S st.r bx ph vs[k] xs[k])
    (hs : optAll (xs.map (stab T (std P T) st.r)) = some cs) : ∃ S', Frozen T w0 S0 F st (xs.foldl (freezeX T (std P T)) st) a w S S' bx ph ∧ cs.length = vs.length ∧ ∀ k (h : k < cs.length) (h2 : k < vs.length), CRep w S' vs[k] cs[k] := by
  obtain ⟨S', h1, h2⟩ := freezeAll_sound (P := P) xs h
  have h3 := optAll_some _ _ hs
  have hlen : cs.length = xs.length := by have := congrArg List.length h3; simpa using this.symm
  refine ⟨S', h1, by omega, fun k hk hk2 => h2 xs[k] (List.getElem_mem (by omega)) _ _ (hx k (by omega) hk2) ?_⟩
  have := congrArg (fun l => l[k]?) h3
  simp only [List.getElem?_map, List.getElem?_eq_getElem hk, List.getElem?_eq_getElem (show k < xs.length by omega), Option.map_some, Option.some.injEq] at this
  exact this

theorem own_new {e : TypeId} {n cap : Nat} {cur : Array Value} {cells : List C} {xs : List Value} (hn : n ≤ cap) (hm : cap ≤ maxLen) (hs : cur.size = cap * szOf T e) (ht : cur.toList.take (n * szOf T e) = xs) (hl : xs.length = n * szOf T e)
    (hc : xs.length = cells.length) (hr : ∀ k (h : k < cells.length) (h2 : k < xs.length), CRep w S xs[k] cells[k]) (hlow : ∀ b, S b → b < w.heap.size) (w1 : World) (hw1 : w1.heap = w.heap) :
    RCRep T (w1.alloc (.cells cur e)) S (.of (.slice (some ⟨w.heap.size, 0, none⟩) n cap)) (.own e n cells) := by
  refine ⟨xs, ⟨hl, .inr ⟨w.heap.size, cap, cur, rfl, Nat.zero_le _, ?_, hn, hm, hs, ht⟩⟩, hc, fun k hk hk2 => (hr k hk hk2).frame (fun b hb => ?_) fun _ h => h⟩
  · show (w1.heap.push _)[_]? = _
    rw [hw1]; simp
  · rw [Below.heap_alloc w1 _ b (by rw [hw1]; exact hlow b hb), hw1]

/-- an owned slice in a new block, as the root of the moment; then named -/
theorem own_fin (h : Rel T w0 S0 F st a w S bx ph) (hsp : st.r.getD st.s.length .none = .none) {e : TypeId} {n : Nat} {cells : List C} {z : Value} {W : Nat → Prop} (hc : Chg W w w')
    (hW : ∀ b, b < w.heap.size → W b → ¬ S b ∧ (∀ t κ, ¬ owns st.r bx ph t κ b) ∧ (w0.heap.size ≤ b ∨ F b)) (hrc : RCRep T w' S (.of z) (.own e n cells))
    (hz : ∀ b, z.ownBlock = some b → b < w'.heap.size ∧ (w.heap.size ≤ b ∨ W b)) {dst : Option Nat} (hd : ∀ k, dst = some k → k < st.s.length) :
    Rels T w0 S0 F (fin { st with r := pushR st.r st.s.length (.own e n cells) } dst (fun d => .one (.view d 0))) (a.put dst z) w' := by
  have h1 := h.world hc hW
  obtain ⟨h2, h3⟩ := pushOwn h1 hsp hrc (fun b hb => by
    obtain ⟨hlt, hor⟩ := hz b hb
    rcases hor with hor | hor
    · exact ⟨fun hs => absurd (h.heap.low.1 b hs) (by omega), hlt, fun t κ ho => absurd (h.heap.free t κ b ho).2 (by omega), .inl (Nat.le_trans h.chg.size hor)⟩
    · by_cases hb2 : b < w.heap.size
      · obtain ⟨q1, q2, q3⟩ := hW b hb2 hor
        exact ⟨q1, hlt, q2, q3⟩
      · exact ⟨fun hs => absurd (h.heap.low.1 b hs) hb2, hlt, fun t κ ho => absurd (h.heap.free t κ b ho).2 hb2, .inl (Nat.le_trans h.chg.size (by omega))⟩)
  refine fin_sound h2 hd (fun k bx' ph' hk e1 e2 e3 _ => ⟨e, n, cells, ?_, ?_⟩)
  · rw [e3, h3]; rfl
  · rw [e1]; unfold phPush; rw [if_pos ⟨rfl, rfl⟩]; rfl
end Go.Proofs.Ytdmdcmhgfgookaa.A
