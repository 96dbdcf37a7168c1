/- Lists as cells. -/
import Derived.Test.YtdmdcmhgfgookaaAm34
set_option linter.unusedSimpArgs false
set_option linter.unusedVariables false
set_option maxRecDepth 100000
set_option maxHeartbeats 4000000
namespace Go.Proofs.Ytdmdcmhgfgookaa.A
open Go
/-! ### lists of strings, of integers, of bools -/
def sC (l : List ByteArray) : List C := l.map vS
def iC (l : List Int) : List C := l.map vI
def bC (l : List Bool) : List C := l.map vB
def nS (l : List ByteArray) : Nat := l.foldr (fun _ n => n + 1) 0
def nI (l : List Int) : Nat := l.foldr (fun _ n => n + 1) 0
def nB (l : List Bool) : Nat := l.foldr (fun _ n => n + 1) 0
theorem nS_eq (l : List ByteArray) : nS l = l.length := by unfold nS; induction l with | nil => rfl | cons x l ih => rw [List.foldr_cons, ih]; rfl
theorem nI_eq (l : List Int) : nI l = l.length := by unfold nI; induction l with | nil => rfl | cons x l ih => rw [List.foldr_cons, ih]; rfl
theorem nB_eq (l : List Bool) : nB l = l.length := by unfold nB; induction l with | nil => rfl | cons x l ih => rw [List.foldr_cons, ih]; rfl
/-- the element at a place; outside of the list: empty, 0, false -/
abbrev sAt (l : List ByteArray) (k : Nat) : ByteArray := l.getD k ByteArray.empty
abbrev iAt (l : List Int) (k : Nat) : Int := l.getD k 0
abbrev bAt (l : List Bool) (k : Nat) : Bool := l.getD k false
theorem map_at {α : Type} (g : α → C) (l : List α) (k : Nat) : cellAt (l.map g) k = match l[k]? with | some x => g x | none => .nil := by
  unfold cellAt
  rw [List.getD_eq_getElem?_getD, List.getElem?_map]
  cases l[k]? <;> rfl
theorem gs_sC (l : List ByteArray) (k : Nat) : gs (cellAt (sC l) k) = sAt l k := by
  unfold sC; rw [map_at, sAt, List.getD_eq_getElem?_getD]
  cases l[k]? <;> rfl
theorem gi_iC (l : List Int) (k : Nat) : gi (cellAt (iC l) k) = iAt l k := by
  unfold iC; rw [map_at, iAt, List.getD_eq_getElem?_getD]
  cases l[k]? <;> rfl
theorem gb_bC (l : List Bool) (k : Nat) : gb (cellAt (bC l) k) = bAt l k := by
  unfold bC; rw [map_at, bAt, List.getD_eq_getElem?_getD]
  cases l[k]? <;> rfl
theorem sC_len (l : List ByteArray) : (sC l).length = nS l := by simp [sC, nS_eq]
theorem iC_len (l : List Int) : (iC l).length = nI l := by simp [iC, nI_eq]
theorem bC_len (l : List Bool) : (bC l).length = nB l := by simp [bC, nB_eq]
theorem ok_sC {l : List ByteArray} {k : Nat} (h : k < l.length) : okK .str (cellAt (sC l) k) := by
  unfold sC; rw [map_at, List.getElem?_eq_getElem h]; exact ⟨_, rfl⟩
theorem ok_iC {l : List Int} {k : Nat} (h : k < l.length) : okK (.int .i64) (cellAt (iC l) k) := by
  unfold iC; rw [map_at, List.getElem?_eq_getElem h]; exact ⟨_, rfl⟩
theorem ok_bC {l : List Bool} {k : Nat} (h : k < l.length) : okK .bool (cellAt (bC l) k) := by
  unfold bC; rw [map_at, List.getElem?_eq_getElem h]; exact ⟨_, rfl⟩
theorem sC_snoc (l : List ByteArray) (s : ByteArray) : sC l ++ [vS s] = sC (l ++ [s]) := by simp [sC]
theorem iC_snoc (l : List Int) (s : Int) : iC l ++ [vI s] = iC (l ++ [s]) := by simp [iC]
theorem bC_snoc (l : List Bool) (s : Bool) : bC l ++ [vB s] = bC (l ++ [s]) := by simp [bC]
theorem sC_app (l r : List ByteArray) : sC l ++ sC r = sC (l ++ r) := by simp [sC]
theorem iC_app (l r : List Int) : iC l ++ iC r = iC (l ++ r) := by simp [iC]
theorem bC_app (l r : List Bool) : bC l ++ bC r = bC (l ++ r) := by simp [bC]
theorem sC_ext (l : List ByteArray) (a b : Nat) : extC (sC l) a b = sC ((l.take b).drop a) := by simp [sC, extC, List.map_take, List.map_drop]
theorem iC_ext (l : List Int) (a b : Nat) : extC (iC l) a b = iC ((l.take b).drop a) := by simp [iC, extC, List.map_take, List.map_drop]
theorem bC_ext (l : List Bool) (a b : Nat) : extC (bC l) a b = bC ((l.take b).drop a) := by simp [bC, extC, List.map_take, List.map_drop]
theorem map_set {α : Type} (g : α → C) (l : List α) {k : Nat} (x : α) (h : k < l.length) : setC (l.map g) k [g x] = (l.set k x).map g := by
  unfold setC
  rw [List.map_set, List.set_eq_take_append_cons_drop, if_pos (by simpa using h)]
  simp
theorem sC_set (l : List ByteArray) {k : Nat} (x : ByteArray) (h : k < l.length) : setC (sC l) k [vS x] = sC (l.set k x) := map_set vS l x h
theorem iC_set (l : List Int) {k : Nat} (x : Int) (h : k < l.length) : setC (iC l) k [vI x] = iC (l.set k x) := map_set vI l x h
theorem bC_set (l : List Bool) {k : Nat} (x : Bool) (h : k < l.length) : setC (bC l) k [vB x] = bC (l.set k x) := map_set vB l x h
theorem map_rep {α : Type} (g : α → C) (n : Nat) (x : α) : repC n [g x] = (List.replicate n x).map g := by
  unfold repC
  induction n with
  | zero => rfl
  | succ n ih => rw [List.replicate_succ, List.flatten_cons, ih, List.replicate_succ]; rfl
theorem sC_rep (n : Nat) (x : ByteArray) : repC n [vS x] = sC (List.replicate n x) := map_rep vS n x
theorem iC_rep (n : Nat) (x : Int) : repC n [vI x] = iC (List.replicate n x) := map_rep vI n x
theorem bC_rep (n : Nat) (x : Bool) : repC n [vB x] = bC (List.replicate n x) := map_rep vB n x
theorem vals_map {α : Type} (g : α → Value) (l : List α) : ∀ c ∈ l.map (fun x => C.val (g x)), ∃ v, c = .val v := by
  intro c h; obtain ⟨x, _, rfl⟩ := List.mem_map.1 h; exact ⟨_, rfl⟩
theorem sC_vals (l : List ByteArray) : ∀ c ∈ sC l, ∃ v, c = .val v := vals_map Value.string l
theorem iC_vals (l : List Int) : ∀ c ∈ iC l, ∃ v, c = .val v := vals_map (Value.int .i64) l
theorem bC_vals (l : List Bool) : ∀ c ∈ bC l, ∃ v, c = .val v := vals_map Value.bool l
theorem sC_flat (l : List ByteArray) : l.flatMap (fun s => [vS s]) = sC l := by induction l with | nil => rfl | cons x l ih => rw [List.flatMap_cons, ih]; rfl
theorem iC_flat (l : List Int) : l.flatMap (fun s => [vI s]) = iC l := by induction l with | nil => rfl | cons x l ih => rw [List.flatMap_cons, ih]; rfl
theorem bC_flat (l : List Bool) : l.flatMap (fun s => [vB s]) = bC l := by induction l with | nil => rfl | cons x l ih => rw [List.flatMap_cons, ih]; rfl
/-- is it in the list ? -/
def hasS (l : List ByteArray) (w : ByteArray) : Bool := l.any fun x => decide (x = w)
theorem hasS_iff {l : List ByteArray} {w : ByteArray} : hasS l w = true ↔ w ∈ l := by
  unfold hasS; rw [List.any_eq_true]; simp
theorem hasS_not {l : List ByteArray} {w : ByteArray} : hasS l w = false ↔ w ∉ l := by
  rw [← hasS_iff]; simp
theorem hasS_step (l : List ByteArray) {w : ByteArray} (i : Int) (h0 : 0 ≤ i) (h : i < nS l) : hasS (l.drop i.toNat) w = (decide (sAt l i.toNat = w) || hasS (l.drop (i + 1).toNat) w) := by
  have hn := nS_eq l
  have e : (i + 1).toNat = i.toNat + 1 := by omega
  have e2 : l.drop i.toNat = l.getD i.toNat ByteArray.empty :: l.drop (i.toNat + 1) := by
    rw [List.drop_eq_getElem_cons (by omega), List.getD_eq_getElem?_getD, List.getElem?_eq_getElem (by omega)]; rfl
  rw [e, e2]; unfold hasS; rw [List.any_cons]
theorem hasS_end (l : List ByteArray) {w : ByteArray} (i : Int) (h : ¬ i < nS l) : hasS (l.drop i.toNat) w = false := by
  have hn := nS_eq l
  rw [List.drop_eq_nil_of_le (by omega)]; rfl
/-! ### slices of slices -/
abbrev slS (l : List ByteArray) : C := .sl (nS l) (sC l)
abbrev slI (l : List Int) : C := .sl (nI l) (iC l)
abbrev slB (l : List Bool) : C := .sl (nB l) (bC l)
def ssC (l : List (List ByteArray)) : List C := l.map slS
def siC (l : List (List Int)) : List C := l.map slI
def nSS (l : List (List ByteArray)) : Nat := l.length
def nSI (l : List (List Int)) : Nat := l.length
theorem nSS_eq (l : List (List ByteArray)) : nSS l = l.length := rfl
theorem nSI_eq (l : List (List Int)) : nSI l = l.length := rfl
theorem gn_ssC (l : List (List ByteArray)) (k : Nat) : gn (cellAt (ssC l) k) = nS (l.getD k []) := by
  unfold ssC; rw [map_at, List.getD_eq_getElem?_getD]; cases l[k]? <;> rfl
theorem gc_ssC (l : List (List ByteArray)) (k : Nat) : gc (cellAt (ssC l) k) = sC (l.getD k []) := by
  unfold ssC; rw [map_at, List.getD_eq_getElem?_getD]; cases l[k]? <;> rfl
theorem ssC_len (l : List (List ByteArray)) : (ssC l).length = nSS l := by simp [ssC, nSS]
theorem ok_ssC {l : List (List ByteArray)} {k : Nat} (h : k < l.length) : okK .sl (cellAt (ssC l) k) := by
  unfold ssC; rw [map_at, List.getElem?_eq_getElem h]; exact .inr ⟨_, _, rfl⟩
theorem ssC_snoc (l : List (List ByteArray)) (s : List ByteArray) : ssC l ++ [slS s] = ssC (l ++ [s]) := by simp [ssC]
theorem ssC_set (l : List (List ByteArray)) {k : Nat} (x : List ByteArray) (h : k < l.length) : setC (ssC l) k [slS x] = ssC (l.set k x) := map_set slS l x h
theorem ssC_ext (l : List (List ByteArray)) (a b : Nat) : extC (ssC l) a b = ssC ((l.take b).drop a) := by simp [ssC, extC, List.map_take, List.map_drop]
theorem gn_siC (l : List (List Int)) (k : Nat) : gn (cellAt (siC l) k) = nI (l.getD k []) := by
  unfold siC; rw [map_at, List.getD_eq_getElem?_getD]; cases l[k]? <;> rfl
theorem gc_siC (l : List (List Int)) (k : Nat) : gc (cellAt (siC l) k) = iC (l.getD k []) := by
  unfold siC; rw [map_at, List.getD_eq_getElem?_getD]; cases l[k]? <;> rfl
theorem siC_len (l : List (List Int)) : (siC l).length = nSI l := by simp [siC, nSI]
/-! ### from place to place -/
theorem drop_cons {α : Type} {l : List α} {k : Nat} (d : α) (h : k < l.length) : l.drop k = l.getD k d :: l.drop (k + 1) := by
  rw [List.drop_eq_getElem_cons h, List.getD_eq_getElem?_getD, List.getElem?_eq_getElem h]; rfl
theorem drop_end {α : Type} {l : List α} {k : Nat} (h : ¬ k < l.length) : l.drop k = [] := List.drop_eq_nil_of_le (by omega)
theorem take_snoc {α : Type} {l : List α} {k : Nat} (d : α) (h : k < l.length) : l.take (k + 1) = l.take k ++ [l.getD k d] := by
  rw [List.take_add_one, List.getElem?_eq_getElem h, List.getD_eq_getElem?_getD, List.getElem?_eq_getElem h]; rfl
theorem take_end {α : Type} {l : List α} {k : Nat} (h : ¬ k < l.length) : l.take k = l := List.take_of_length_le (by omega)
theorem getD_mem {α : Type} {l : List α} {k : Nat} (d : α) (h : k < l.length) : l.getD k d ∈ l := by
  rw [List.getD_eq_getElem?_getD, List.getElem?_eq_getElem h]; exact List.getElem_mem h
theorem r1b {a b : Bool} (h : a = b) : ret1 (.st (vB a)) = ⟨false, [(false, [.st (.val (.bool b))])]⟩ := by rw [h]; rfl
theorem r1i {a b : Int} (h : a = b) : ret1 (.st (vI a)) = ⟨false, [(false, [.st (.val (.int .i64 b))])]⟩ := by rw [h]; rfl
theorem r1s {a b : ByteArray} (h : a = b) : ret1 (.st (vS a)) = ⟨false, [(false, [.st (.val (.string b))])]⟩ := by rw [h]; rfl
theorem r1c {c d : C} (h : c = d) : ret1 (.st c) = ⟨false, [(false, [.st d])]⟩ := by rw [h]; rfl
theorem ret1_c {c d : RC} (h : c = d) : (⟨false, [(false, [c])]⟩ : RV) = ret1 d := by rw [h]; rfl
theorem own_eq {e : TypeId} {n n' : Nat} {c c' : List C} (h : n = n') (h2 : c = c') : RC.own e n c = .own e n' c' := by rw [h, h2]
end Go.Proofs.Ytdmdcmhgfgookaa.A
