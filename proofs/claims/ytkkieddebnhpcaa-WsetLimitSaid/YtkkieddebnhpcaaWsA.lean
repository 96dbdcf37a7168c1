import Derived.Test.YtkkieddebnhpcaaWsSort
import Derived.Test.YtkkieddebnhpcaaLi
import Derived.Test.YtkkieddebnhpcaaTt
import Derived.Test.YtkkieddebnhpcaaAmQ
/- Sets of words: the plain law. -/
set_option linter.unusedSimpArgs false
set_option linter.unusedVariables false
set_option maxRecDepth 100000
set_option maxHeartbeats 4000000
namespace Go.Proofs.Ytkkieddebnhpcaa.A
open Go
/-- a comes ahead of b -/
def ltS (a b : ByteArray) : Bool := decide (bL a < bL b)
theorem bL_inj {a b : ByteArray} (h : bL a = bL b) : a = b := by rw [← ofL_bL a, ← ofL_bL b, h]
theorem ltS_iff {a b : ByteArray} : ltS a b = true ↔ bL a < bL b := by unfold ltS; simp
theorem ltS_no {a b : ByteArray} : ltS a b = false ↔ bL b ≤ bL a := by unfold ltS; simp
theorem ltS_trans {a b c : ByteArray} (h : ltS a b = true) (k : ltS b c = true) : ltS a c = true := ltS_iff.2 (List.lt_trans (ltS_iff.1 h) (ltS_iff.1 k))
theorem ltS_irr (a : ByteArray) : ltS a a = false := ltS_no.2 (List.le_refl _)
theorem ltS_tri {a b : ByteArray} (h : ltS a b = false) (hn : a ≠ b) : ltS b a = true := by
  cases h2 : ltS b a with
  | true => rfl
  | false => exact absurd (bL_inj (List.le_antisymm (ltS_no.1 h2) (ltS_no.1 h))) hn
theorem cmpS_lss (a b : ByteArray) : cmpS .lss a b = ltS a b := by
  show Op.bytesLess a.toList b.toList = _
  rw [bytesLess_eq, Lib.toList_data, Lib.toList_data]; rfl
theorem cmpS_geq (a b : ByteArray) : cmpS .geq a b = !ltS a b := by
  show (!Op.bytesLess a.toList b.toList) = _
  rw [bytesLess_eq, Lib.toList_data, Lib.toList_data]; rfl
abbrev Set' (l : List ByteArray) : Prop := l.Pairwise fun a b => ltS a b = true
theorem set_uniq {l m : List ByteArray} (hl : Set' l) (hm : Set' m) (h : ∀ x, x ∈ l ↔ x ∈ m) : l = m := by
  induction l generalizing m with
  | nil =>
    cases m with
    | nil => rfl
    | cons y m => exact absurd ((h y).2 (List.mem_cons_self ..)) (by simp)
  | cons x l ih =>
    cases m with
    | nil => exact absurd ((h x).1 (List.mem_cons_self ..)) (by simp)
    | cons y m =>
      obtain ⟨h1, h2⟩ := List.pairwise_cons.1 hl
      obtain ⟨h3, h4⟩ := List.pairwise_cons.1 hm
      have e : x = y := by
        rcases List.mem_cons.1 ((h x).1 (List.mem_cons_self ..)) with e | e
        · exact e
        rcases List.mem_cons.1 ((h y).2 (List.mem_cons_self ..)) with e' | e'
        · exact e'.symm
        have := ltS_trans (h1 y e') (h3 x e)
        rw [ltS_irr] at this; cases this
      subst e
      have hx : x ∉ l := fun hh => by have := h1 x hh; rw [ltS_irr] at this; cases this
      have hy : x ∉ m := fun hh => by have := h3 x hh; rw [ltS_irr] at this; cases this
      congr 1
      refine ih h2 h4 fun z => ⟨fun hz => ?_, fun hz => ?_⟩
      · rcases List.mem_cons.1 ((h z).1 (List.mem_cons_of_mem _ hz)) with e | e
        · subst e; exact absurd hz hx
        · exact e
      · rcases List.mem_cons.1 ((h z).2 (List.mem_cons_of_mem _ hz)) with e | e
        · subst e; exact absurd hz hy
        · exact e
/-- a set with one more word -/
def putS : List ByteArray → ByteArray → List ByteArray
  | [], w => [w]
  | x :: l, w => if w = x then x :: l else if ltS w x = true then w :: x :: l else x :: putS l w
theorem mem_putS {l : List ByteArray} {w x : ByteArray} : x ∈ putS l w ↔ x ∈ l ∨ x = w := by
  induction l with
  | nil => simp [putS]
  | cons y l ih =>
    unfold putS
    split
    · rename_i h; subst h
      exact ⟨.inl, fun h => h.elim id fun e => by rw [e]; exact List.mem_cons_self ..⟩
    · split
      · simp only [List.mem_cons]
        constructor
        · rintro (h | h | h) <;> simp [h]
        · rintro ((h | h) | h) <;> simp [h]
      · simp only [List.mem_cons, ih]
        constructor
        · rintro (h | h | h) <;> simp [h]
        · rintro ((h | h) | h) <;> simp [h]
theorem putS_set {l : List ByteArray} {w : ByteArray} (h : Set' l) : Set' (putS l w) := by
  induction l with
  | nil => simp [putS, Set']
  | cons y l ih =>
    obtain ⟨h1, h2⟩ := List.pairwise_cons.1 h
    unfold putS
    split
    · exact h
    · rename_i hn
      split
      · rename_i hlt
        refine List.pairwise_cons.2 ⟨fun z hz => ?_, h⟩
        rcases List.mem_cons.1 hz with e | e
        · rw [e]; exact hlt
        · exact ltS_trans hlt (h1 z e)
      · rename_i hlt
        refine List.pairwise_cons.2 ⟨fun z hz => ?_, ih h2⟩
        rcases mem_putS.1 hz with e | e
        · exact h1 z e
        · rw [e]; exact ltS_tri (by simpa using hlt) hn
theorem putS_in {l : List ByteArray} {w : ByteArray} (h : Set' l) (hw : w ∈ l) : putS l w = l :=
  set_uniq (putS_set h) h fun x => by rw [mem_putS]; exact ⟨fun k => k.elim id fun e => e ▸ hw, .inl⟩
theorem putS_at {l : List ByteArray} {w : ByteArray} (h : Set' l) (hw : w ∉ l) {k : Nat} (hk : k ≤ l.length) (h1 : k = 0 ∨ ltS w (sAt l (k - 1)) = false) (h2 : ∀ i, k ≤ i → i < l.length → ltS w (sAt l i) = true) :
    l.take k ++ [w] ++ l.drop k = putS l w := by
  have hg : ∀ i (hi : i < l.length), sAt l i = l[i] := fun i hi => by
    rw [sAt, List.getD_eq_getElem?_getD, List.getElem?_eq_getElem hi]; rfl
  refine set_uniq ?_ (putS_set h) fun x => ?_
  · have hpair : (l.take k ++ l.drop k).Pairwise fun a b => ltS a b = true := by rw [List.take_append_drop]; exact h
    obtain ⟨p1, p2, p3⟩ := List.pairwise_append.1 hpair
    rw [List.append_assoc]
    have hlow : ∀ x ∈ l.take k, ltS x w = true := fun x hx => by
      obtain ⟨i, hi, rfl⟩ := List.getElem_of_mem hx
      have hi2 : i < k := by rw [List.length_take] at hi; omega
      rw [List.getElem_take]
      rcases h1 with h1 | h1
      · omega
      have hk1 : k - 1 < l.length := by omega
      rw [hg _ hk1] at h1
      have hlast : ltS l[k - 1] w = true := ltS_tri h1 fun e => hw (e ▸ List.getElem_mem hk1)
      by_cases e : i = k - 1
      · subst e; exact hlast
      · exact ltS_trans (List.pairwise_iff_getElem.1 h i (k - 1) (by omega) hk1 (by omega)) hlast
    have hhigh : ∀ x ∈ l.drop k, ltS w x = true := fun x hx => by
      obtain ⟨i, hi, rfl⟩ := List.getElem_of_mem hx
      rw [List.getElem_drop]
      have hi2 : k + i < l.length := by rw [List.length_drop] at hi; omega
      have := h2 (k + i) (by omega) hi2
      rw [hg _ hi2] at this
      exact this
    refine List.pairwise_append.2 ⟨p1, List.pairwise_append.2 ⟨by simp, p2, fun a ha b hb => ?_⟩, fun a ha b hb => ?_⟩
    · rw [List.mem_singleton.1 ha]; exact hhigh b hb
    · rcases List.mem_append.1 hb with e | e
      · rw [List.mem_singleton.1 e]; exact hlow a ha
      · exact p3 a ha b e
  · rw [mem_putS]
    simp only [List.mem_append, List.mem_singleton]
    have : x ∈ l ↔ x ∈ l.take k ∨ x ∈ l.drop k := by rw [← List.mem_append, List.take_append_drop]
    rw [this]
    constructor
    · rintro ((h | h) | h) <;> simp [h]
    · rintro ((h | h) | h) <;> simp [h]
/-- the set of words -/
def setS (l : List ByteArray) : List ByteArray := l.foldl putS []
theorem fold_set (l m : List ByteArray) (h : Set' m) : Set' (l.foldl putS m) ∧ ∀ x, x ∈ l.foldl putS m ↔ x ∈ m ∨ x ∈ l := by
  induction l generalizing m with
  | nil => exact ⟨h, fun x => by simp⟩
  | cons y l ih =>
    obtain ⟨h1, h2⟩ := ih (putS m y) (putS_set h)
    refine ⟨h1, fun x => ?_⟩
    rw [List.foldl_cons, h2, mem_putS]
    simp only [List.mem_cons]
    constructor
    · rintro ((h | h) | h) <;> simp [h]
    · rintro (h | h | h) <;> simp [h]
theorem setS_set (l : List ByteArray) : Set' (setS l) := (fold_set l [] List.Pairwise.nil).1
theorem mem_setS {l : List ByteArray} {x : ByteArray} : x ∈ setS l ↔ x ∈ l := by
  have := (fold_set l [] List.Pairwise.nil).2 x
  unfold setS
  simpa using this
theorem setS_same {l m : List ByteArray} (h : ∀ x, x ∈ l ↔ x ∈ m) : setS l = setS m :=
  set_uniq (setS_set l) (setS_set m) fun x => by rw [mem_setS, mem_setS]; exact h x
theorem setS_of {l : List ByteArray} (h : Set' l) : setS l = l := set_uniq (setS_set l) h fun x => mem_setS
theorem setS_snoc (l : List ByteArray) (w : ByteArray) : setS (l ++ [w]) = putS (setS l) w := by unfold setS; rw [List.foldl_append]; rfl
/-- what is sorted and compacted is the set -/
theorem compact_upto (zs : List (List UInt8)) (h : zs.Pairwise (· ≤ ·)) : ∀ m, m ≤ zs.length →
    (Lib.compactUpTo zs.toArray m).Pairwise (· < ·) ∧ (∀ x ∈ Lib.compactUpTo zs.toArray m, ∃ j, j < m ∧ zs[j]? = some x) ∧ ∀ j, j < m → ∀ x, zs[j]? = some x → x ∈ Lib.compactUpTo zs.toArray m := by
  intro m
  induction m with
  | zero => intro _; exact ⟨by simp [Lib.compactUpTo], fun x hx => by simp [Lib.compactUpTo] at hx, fun j hj => by omega⟩
  | succ m ih =>
    intro hm
    obtain ⟨h1, h2, h3⟩ := ih (by omega)
    have hz : ∀ j, j < zs.length → zs.toArray[j]! = zs[j]! := fun j _ => by simp
    have hget : zs.toArray[m]! = zs[m]'(by omega) := by simp [show m < zs.length by omega]
    rw [Lib.compactUpTo_succ]
    by_cases hk : Lib.keeps zs.toArray m = true
    · rw [if_pos hk, hget]
      refine ⟨List.pairwise_append.2 ⟨h1, by simp, fun a ha b hb => ?_⟩, fun x hx => ?_, fun j hj x hx => ?_⟩
      · rw [List.mem_singleton.1 hb]
        obtain ⟨j, hj, hja⟩ := h2 a ha
        have hjl : j < zs.length := by omega
        rw [List.getElem?_eq_getElem hjl] at hja
        cases hja
        have hne : m ≠ 0 := by omega
        have hlast : zs[m - 1]'(by omega) < zs[m]'(by omega) := by
          have h4 : zs.toArray[m]! ≠ zs.toArray[m - 1]! := by
            unfold Lib.keeps at hk
            simpa [hne] using hk
          rw [hget, show zs.toArray[m - 1]! = zs[m - 1]'(by omega) by simp [show m - 1 < zs.length by omega]] at h4
          have h5 := List.pairwise_iff_getElem.1 h (m - 1) m (by omega) (by omega) (by omega)
          cases Decidable.em (zs[m - 1]'(by omega) < zs[m]'(by omega)) with
          | inl h6 => exact h6
          | inr h6 => exact absurd (List.le_antisymm (List.not_lt.1 h6) h5) h4
        by_cases e : j = m - 1
        · subst e; exact hlast
        · exact List.lt_of_le_of_lt (List.pairwise_iff_getElem.1 h j (m - 1) hjl (by omega) (by omega)) hlast
      · rcases List.mem_append.1 hx with e | e
        · obtain ⟨j, hj, q⟩ := h2 x e; exact ⟨j, by omega, q⟩
        · rw [List.mem_singleton.1 e]; exact ⟨m, by omega, List.getElem?_eq_getElem (by omega)⟩
      · by_cases e : j = m
        · subst e
          rw [List.getElem?_eq_getElem (by omega)] at hx; cases hx
          simp
        · exact List.mem_append_left _ (h3 j (by omega) x hx)
    · rw [if_neg hk, List.append_nil]
      refine ⟨h1, fun x hx => ?_, fun j hj x hx => ?_⟩
      · obtain ⟨j, hj, q⟩ := h2 x hx; exact ⟨j, by omega, q⟩
      · by_cases e : j = m
        · subst e
          have hne : j ≠ 0 := fun e => hk (by simp [Lib.keeps, e])
          have h4 : zs.toArray[j]! = zs.toArray[j - 1]! := by
            unfold Lib.keeps at hk
            simpa [hne] using hk
          rw [hget, show zs.toArray[j - 1]! = zs[j - 1]'(by omega) by simp [show j - 1 < zs.length by omega]] at h4
          rw [List.getElem?_eq_getElem (by omega)] at hx; cases hx
          rw [h4]
          exact h3 (j - 1) (by omega) _ (List.getElem?_eq_getElem (by omega))
        · exact h3 j (by omega) x hx
theorem cp_srt (l : List ByteArray) : cpS (srtS l) = setS l := by
  have hm : ((srtS l).map bL) = (l.map bL).mergeSort fun x y => decide (x ≤ y) := by
    unfold srtS; rw [List.map_map]
    conv => rhs; rw [← List.map_id ((l.map bL).mergeSort fun x y => decide (x ≤ y))]
    rfl
  have hs : ((l.map bL).mergeSort fun x y => decide (x ≤ y)).Pairwise (· ≤ ·) := by
    have := List.pairwise_mergeSort (le := fun x y : List UInt8 => decide (x ≤ y)) (fun a b c h k => by simp only [decide_eq_true_eq] at *; exact List.le_trans h k) (fun a b => by simp only [Bool.or_eq_true, decide_eq_true_eq]; exact List.le_total a b) (l.map bL)
    simpa using this
  obtain ⟨h1, h2, h3⟩ := compact_upto _ hs _ (Nat.le_refl _)
  have hc : cpS (srtS l) = (Lib.compact ((l.map bL).mergeSort fun x y => decide (x ≤ y))).map ofL := by unfold cpS; rw [hm]
  rw [hc]
  refine set_uniq ?_ (setS_set l) fun x => ?_
  · refine List.pairwise_map.2 (h1.imp fun {a b} h => ?_)
    exact ltS_iff.2 h
  · rw [mem_setS]
    constructor
    · intro hx
      obtain ⟨y, hy, rfl⟩ := List.mem_map.1 hx
      obtain ⟨j, hj, q⟩ := h2 y hy
      have := List.mem_of_getElem? q
      rw [List.mem_mergeSort] at this
      obtain ⟨z, hz, rfl⟩ := List.mem_map.1 this
      exact hz
    · intro hx
      have h4 : bL x ∈ (l.map bL).mergeSort fun x y => decide (x ≤ y) := List.mem_mergeSort.2 (List.mem_map.2 ⟨x, hx, rfl⟩)
      obtain ⟨j, hj, e⟩ := List.getElem_of_mem h4
      exact List.mem_map.2 ⟨bL x, h3 j (by simpa using hj) _ (by rw [List.getElem?_eq_getElem hj, e]), rfl⟩
/-- the strings of cells -/
def strsOf (cs : List C) : List ByteArray := cs.map gs
theorem strsOf_sC (l : List ByteArray) : strsOf (sC l) = l := by
  unfold strsOf sC; rw [List.map_map]
  conv => rhs; rw [← List.map_id l]
  rfl
variable {P : Program} {T : TT} {Q : Exit → St → Prop} {st : St}
theorem aw_retz {j : J} (hj : j = std P T) (ks : List (Nat × KS)) {st1 : St} (h : canon T j ks [] st = some st1) (k : Q .ret st1) : Aw P T .ret Q st := forgetj hj ks [] h (aw_ret k)
theorem r1sl {l : List ByteArray} {n : Nat} {cs : List C} (h1 : n = nS l) (h2 : cs = sC l) : ret1 (.st (.sl (nS l) (sC l))) = ⟨false, [(false, [.st (.sl n cs)])]⟩ := by rw [h1, h2]; rfl
/-! ### from place to place -/
theorem drop_step (l : List ByteArray) (i : Int) (h0 : 0 ≤ i) (h : i < nS l) : l.drop i.toNat = sAt l i.toNat :: l.drop (i + 1).toNat := by
  have hn := nS_eq l
  have e : (i + 1).toNat = i.toNat + 1 := by omega
  rw [e]; exact drop_cons _ (by omega)
theorem drop_fin (l : List ByteArray) (i : Int) (h : ¬ i < nS l) : l.drop i.toNat = [] := by
  have hn := nS_eq l
  exact List.drop_eq_nil_of_le (by omega)
theorem take_step (l : List ByteArray) (i : Int) (h0 : 0 ≤ i) (h : i < nS l) : l.take (i + 1).toNat = l.take i.toNat ++ [sAt l i.toNat] := by
  have hn := nS_eq l
  have e : (i + 1).toNat = i.toNat + 1 := by omega
  rw [e]; exact take_snoc _ (by omega)
theorem take_fin (l : List ByteArray) (i : Int) (h : ¬ i < nS l) : l.take i.toNat = l := by
  have hn := nS_eq l
  exact List.take_of_length_le (by omega)
theorem sAt_mem (l : List ByteArray) (i : Int) (h0 : 0 ≤ i) (h : i < nS l) : sAt l i.toNat ∈ l := by
  have hn := nS_eq l
  exact getD_mem _ (by omega)
theorem ext_sAt {l m : List ByteArray} (h : nS l = nS m) (k : ∀ n : Nat, n < nS l → sAt l n = sAt m n) : l = m := by
  have h1 := nS_eq l; have h2 := nS_eq m
  apply List.ext_getElem (by omega)
  intro i a b
  have := k i (by omega)
  rw [sAt, sAt, List.getD_eq_getElem?_getD, List.getD_eq_getElem?_getD, List.getElem?_eq_getElem a, List.getElem?_eq_getElem b] at this
  exact this
/-- where it is first, or -1 -/
def idxGo (w : ByteArray) : List ByteArray → Int → Int
  | [], _ => -1
  | x :: l, i => if w = x then i else idxGo w l (i + 1)
def idxS (l : List ByteArray) (w : ByteArray) : Int := idxGo w l 0
theorem idxGo_has (w : ByteArray) (l : List ByteArray) (i : Int) (hi : 0 ≤ i) : decide (idxGo w l i ≥ 0) = hasS l w := by
  induction l generalizing i with
  | nil => rfl
  | cons x l ih =>
    unfold idxGo
    have e : hasS (x :: l) w = (decide (x = w) || hasS l w) := by unfold hasS; rfl
    rw [e]
    split
    · rename_i h; subst h; simp [hi]
    · rename_i h
      rw [ih (i + 1) (by omega)]
      have : ¬ x = w := fun e => h e.symm
      simp [this]
theorem idx_has (l : List ByteArray) (w : ByteArray) : decide (idxS l w ≥ 0) = hasS l w := idxGo_has w l 0 (by omega)
/-- is it a set ? -/
def isS (l : List ByteArray) : Bool := (List.range (nS l - 1)).all fun n => ltS (sAt l n) (sAt l (n + 1))
theorem isS_iff {l : List ByteArray} : isS l = true ↔ ∀ n : Nat, n + 1 < nS l → ltS (sAt l n) (sAt l (n + 1)) = true := by
  unfold isS
  rw [List.all_eq_true]
  exact ⟨fun h n hn => h n (List.mem_range.2 (by omega)), fun h n hn => h n (by have := List.mem_range.1 hn; omega)⟩
theorem isS_yes {l : List ByteArray} (h : ∀ n : Nat, n + 1 < nS l → ltS (sAt l n) (sAt l (n + 1)) = true) : isS l = true := isS_iff.2 h
theorem isS_no {l : List ByteArray} (n : Nat) (hn : n + 1 < nS l) (h : ltS (sAt l n) (sAt l (n + 1)) = false) : isS l = false := by
  cases e : isS l with
  | false => rfl
  | true => have := isS_iff.1 e n hn; rw [h] at this; cases this
theorem isS_set {l : List ByteArray} (h : Set' l) : isS l = true := isS_yes fun n hn => by
  have h1 := nS_eq l
  rw [sAt, sAt, List.getD_eq_getElem?_getD, List.getD_eq_getElem?_getD, List.getElem?_eq_getElem (show n < l.length by omega), List.getElem?_eq_getElem (show n + 1 < l.length by omega)]
  exact List.pairwise_iff_getElem.1 h n (n + 1) (by omega) (by omega) (by omega)
def sameS (l m : List ByteArray) : Bool := decide (l = m)
theorem sameS_yes {l m : List ByteArray} (h : nS l = nS m) (k : ∀ n : Nat, n < nS l → sAt l n = sAt m n) : sameS l m = true := by unfold sameS; rw [decide_eq_true_eq]; exact ext_sAt h k
theorem sameS_no {l m : List ByteArray} (h : nS l ≠ nS m ∨ ∃ n : Nat, sAt l n ≠ sAt m n) : sameS l m = false := by
  unfold sameS; rw [decide_eq_false_iff_not]; rintro rfl
  rcases h with h | ⟨n, h⟩
  · exact h rfl
  · exact h rfl
theorem sameS_self (l : List ByteArray) : sameS l l = true := by unfold sameS; simp
def fewS (l : List ByteArray) : Bool := decide (l.length ≤ 60) && l.all fun s => decide (s.size ≤ 20)
theorem fewS_iff {l : List ByteArray} : fewS l = true ↔ nS l ≤ 60 ∧ ∀ s ∈ l, s.size ≤ 20 := by unfold fewS; rw [nS_eq]; simp
/-- the beginning -/
def cutS (w : ByteArray) (k : Int) : ByteArray := if k < 0 then ByteArray.empty else if (w.size : Int) ≤ k then w else w.extract 0 k.toNat
/-! ### the order, byte by byte -/
theorem lt_at : ∀ (x y : List UInt8) (i : Nat), (∀ n, n < i → x.getD n 0 = y.getD n 0) → i ≤ x.length → i ≤ y.length → (decide (x < y) = decide (x.drop i < y.drop i))
  | _, _, 0, _, _, _ => rfl
  | [], y, i + 1, _, h, _ => by simp at h
  | a :: x, [], i + 1, _, _, h => by simp at h
  | a :: x, b :: y, i + 1, h, h1, h2 => by
    have e : a = b := by simpa using h 0 (by omega)
    subst e
    rw [List.drop_succ_cons, List.drop_succ_cons, ← lt_at x y i (fun n hn => by simpa using h (n + 1) (by omega)) (by simpa using h1) (by simpa using h2)]
    simp
theorem lt_head {a b : UInt8} {x y : List UInt8} (h : a ≠ b) : decide (a :: x < b :: y) = decide (a < b) := by
  simp [List.cons_lt_cons_iff, h]
theorem bt_bL (s : ByteArray) (n : Nat) : bt s n = ((bL s).getD n 0).toNat := bt_data s n
theorem size_bL (s : ByteArray) : (bL s).length = s.size := by simp [bL]
theorem ltS_at {a b : ByteArray} {i : Int} (h0 : 0 ≤ i) (h1 : i < a.size) (h2 : i < b.size) (h : ∀ n : Nat, (n : Int) < i → bt a n = bt b n) (hn : ¬ satB a i.toNat = satB b i.toNat) : ltS a b = decide (satB a i.toNat < satB b i.toNat) := by
  unfold ltS satB at *
  have ha := size_bL a; have hb := size_bL b
  rw [lt_at (bL a) (bL b) i.toNat (fun n hn => UInt8.toNat_inj.1 (by rw [← bt_bL, ← bt_bL]; exact h n (by omega))) (by omega) (by omega)]
  rw [bt_bL, bt_bL] at hn ⊢
  rw [List.drop_eq_getElem_cons (show i.toNat < (bL a).length by omega), List.drop_eq_getElem_cons (show i.toNat < (bL b).length by omega)]
  rw [List.getD_eq_getElem?_getD, List.getD_eq_getElem?_getD, List.getElem?_eq_getElem (show i.toNat < (bL a).length by omega), List.getElem?_eq_getElem (show i.toNat < (bL b).length by omega)] at hn ⊢
  simp only [Option.getD_some] at hn ⊢
  rw [lt_head (fun e => hn (by rw [e]))]
  congr 1
  rw [UInt8.lt_iff_toNat_lt]
  exact propext ⟨fun h => by omega, fun h => by omega⟩
theorem ltS_fin {a b : ByteArray} {i : Int} (h0 : 0 ≤ i) (h1 : i ≤ a.size) (h2 : i ≤ b.size) (h3 : ¬ i < a.size ∨ ¬ i < b.size) (h : ∀ n : Nat, (n : Int) < i → bt a n = bt b n) : ltS a b = decide ((a.size : Int) < b.size) := by
  unfold ltS
  have ha := size_bL a; have hb := size_bL b
  rw [lt_at (bL a) (bL b) i.toNat (fun n hn => UInt8.toNat_inj.1 (by rw [← bt_bL, ← bt_bL]; exact h n (by omega))) (by omega) (by omega)]
  by_cases e : (a.size : Int) < b.size
  · rw [List.drop_eq_nil_of_le (by omega), List.drop_eq_getElem_cons (show i.toNat < (bL b).length by omega)]
    rw [decide_eq_decide]
    exact ⟨fun _ => e, fun _ => List.nil_lt_cons _ _⟩
  · rw [List.drop_eq_nil_of_le (show (bL b).length ≤ i.toNat by omega)]
    simp [e]
end Go.Proofs.Ytkkieddebnhpcaa.A

/- Sets of words: products. -/
set_option linter.unusedSimpArgs false
set_option linter.unusedVariables false
set_option maxRecDepth 100000
set_option maxHeartbeats 4000000
namespace Go.Proofs.Ytkkieddebnhpcaa.A
open Go
/-- the words of a product, in order: those of a word of the first set -/
def rowS (k : Int) (x : ByteArray) (b : List ByteArray) : List ByteArray := b.map fun y => cutS (x ++ y) k
def prodS (k : Int) (a b : List ByteArray) : List ByteArray := a.flatMap fun x => rowS k x b
theorem cutS_size (w : ByteArray) (k : Int) : (cutS w k).size ≤ w.size := by
  unfold cutS
  split
  · exact Nat.zero_le _
  · split
    · exact Nat.le_refl _
    · rw [ByteArray.size_extract]; omega
theorem prod_size {k : Int} {a b : List ByteArray} {n m : Nat} (ha : ∀ s ∈ a, s.size ≤ n) (hb : ∀ s ∈ b, s.size ≤ m) : ∀ s ∈ prodS k a b, s.size ≤ n + m := by
  intro s hs
  unfold prodS at hs
  obtain ⟨x, hx, hs⟩ := List.mem_flatMap.1 hs
  unfold rowS at hs
  obtain ⟨y, hy, rfl⟩ := List.mem_map.1 hs
  have h1 := cutS_size (x ++ y) k
  rw [ByteArray.size_append] at h1
  have := ha x hx
  have := hb y hy
  omega
theorem set_few {l : List ByteArray} : (setS l).length ≤ l.length := by
  have key : ∀ (l m : List ByteArray), (l.foldl putS m).length ≤ l.length + m.length := by
    intro l
    induction l with
    | nil => intro m; simp
    | cons w l ih =>
      intro m
      have hp : (putS m w).length ≤ m.length + 1 := by
        clear ih
        induction m with
        | nil => simp [putS]
        | cons y m ih2 =>
          unfold putS
          split
          · simp
          · split
            · simp
            · simp only [List.length_cons]; omega
      have := ih (putS m w)
      rw [List.foldl_cons]
      simp only [List.length_cons]
      omega
  have := key l []
  unfold setS; simpa using this
theorem put_set_snoc (l : List ByteArray) (w : ByteArray) : putS (setS l) w = setS (l ++ [w]) := (setS_snoc l w).symm
theorem prod_len {k : Int} {a b : List ByteArray} : (prodS k a b).length = a.length * b.length := by
  unfold prodS rowS
  induction a with
  | nil => simp
  | cons x a ih => rw [List.flatMap_cons, List.length_append, ih, List.length_map, List.length_cons, Nat.succ_mul]; omega
theorem prod_few {k : Int} {a b : List ByteArray} {x : ByteArray} {c : List ByteArray} {i : Nat} (ha : a.length ≤ 300) (hb : b.length ≤ 300) (hc : c.length ≤ 300) : (prodS k (a.take i) b ++ rowS k x c).length ≤ 100000 := by
  rw [List.length_append, prod_len, rowS, List.length_map]
  have : (a.take i).length * b.length ≤ 300 * 300 := Nat.mul_le_mul (by rw [List.length_take]; omega) hb
  omega
theorem prod_take {k : Int} {a b : List ByteArray} (i : Int) (h0 : 0 ≤ i) (h : i < nS a) : prodS k (a.take (i + 1).toNat) b = prodS k (a.take i.toNat) b ++ rowS k (sAt a i.toNat) b := by
  rw [take_step a i h0 h]; unfold prodS; rw [List.flatMap_append]; simp
theorem row_take {k : Int} {x : ByteArray} {b : List ByteArray} (i : Int) (h0 : 0 ≤ i) (h : i < nS b) : rowS k x (b.take (i + 1).toNat) = rowS k x (b.take i.toNat) ++ [cutS (x ++ sAt b i.toNat) k] := by
  rw [take_step b i h0 h]; unfold rowS; simp
theorem row_size {k : Int} {x : ByteArray} {b : List ByteArray} {n m : Nat} (ha : x.size ≤ n) (hb : ∀ s ∈ b, s.size ≤ m) : ∀ s ∈ rowS k x b, s.size ≤ n + m := by
  intro s hs
  unfold rowS at hs
  obtain ⟨y, hy, rfl⟩ := List.mem_map.1 hs
  have h1 := cutS_size (x ++ y) k
  rw [ByteArray.size_append] at h1
  have := hb y hy
  omega
/-- what the program forms of a word: once, if it is long enough -/
def rowP (k : Int) (x : ByteArray) (b : List ByteArray) : List ByteArray := rowS k x (if k ≤ x.size then b.take 1 else b)
def prodP (k : Int) (a b : List ByteArray) : List ByteArray := a.flatMap fun x => rowP k x b
theorem cutS_long {x y : ByteArray} {k : Int} (h : k ≤ x.size) : cutS (x ++ y) k = cutS x k := by
  have hz : (x ++ y).size = x.size + y.size := ByteArray.size_append
  unfold cutS
  by_cases h1 : k < 0
  · rw [if_pos h1, if_pos h1]
  rw [if_neg h1, if_neg h1]
  have e : (x ++ y).extract 0 k.toNat = x.extract 0 k.toNat := by
    apply ByteArray.ext
    rw [ByteArray.data_extract, ByteArray.data_append, ByteArray.data_extract, Array.extract_append]
    have : k.toNat - x.data.size = 0 := by have : x.data.size = x.size := rfl; omega
    rw [this]
    simp
  have e2 : (x.size : Int) ≤ k → x.extract 0 k.toNat = x := fun h2 => by
    rw [show k.toNat = x.size by omega]; exact ByteArray.extract_zero_size
  by_cases h2 : (x.size : Int) ≤ k
  · rw [if_pos h2]
    by_cases h3 : ((x ++ y).size : Int) ≤ k
    · rw [if_pos h3]
      have hy : y.size = 0 := by omega
      rw [ByteArray.size_eq_zero_iff.1 hy]; simp
    · rw [if_neg h3, e, e2 h2]
  · rw [if_neg h2, if_neg (by omega), e]
theorem rowP_mem {k : Int} {x : ByteArray} {b : List ByteArray} (w : ByteArray) : w ∈ rowP k x b ↔ w ∈ rowS k x b := by
  unfold rowP
  split
  · rename_i h
    unfold rowS
    cases b with
    | nil => simp
    | cons y b =>
      simp only [List.take_succ_cons, List.take_zero, List.map_cons, List.map_nil, List.mem_cons, List.not_mem_nil, or_false, List.mem_map]
      constructor
      · exact .inl
      · rintro (h1 | ⟨z, _, rfl⟩)
        · exact h1
        · rw [cutS_long h, cutS_long h]
  · exact Iff.rfl
theorem prodP_mem {k : Int} {a b : List ByteArray} (w : ByteArray) : w ∈ prodP k a b ↔ w ∈ prodS k a b := by
  unfold prodP prodS
  simp only [List.mem_flatMap, rowP_mem]
theorem prodP_set {k : Int} {a b : List ByteArray} : setS (prodP k a b) = setS (prodS k a b) := setS_same fun w => prodP_mem w
end Go.Proofs.Ytkkieddebnhpcaa.A

/- Sets of words: the reference's small functions. -/
set_option linter.unusedSimpArgs false
set_option linter.unusedVariables false
set_option maxRecDepth 100000
set_option maxHeartbeats 4000000
namespace Go.Proofs.Ytkkieddebnhpcaa.A
open Go
def pc (f : FuncId) (args : List Arg) (ret : RV) : Prop := (std Try.prog T).pc f args ret []
def book0 : Book := fun _ _ => none
theorem pc_Has19 (l : List ByteArray) (w : ByteArray) (hl : nS l < 4611686018427387904) : PC Try.prog T 21 [.v false [(C.sl (nS l) (sC l))], .v false [vS w]] (ret1 (.st (vB (hasS l w)))) [] := by
  refine pc_of tok Try.func21 rfl (by rfl) ?_
  obtain ⟨j, hj⟩ : ∃ j : J, j = std Try.prog T := ⟨_, rfl⟩
  have hm : Try.prog.follows .mixedOrders = true := by kernel_rfl
  generalize y_sC : @sC = x_sC at *
  generalize y_nS : @nS = x_nS at *
  generalize y_hasS : @hasS = x_hasS at *
  (repeat' first | (with_reducible refine tr_cut (fun h => ?_) (fun h => ?_) <;> (try simp (disch := omega) only [hj, std, cmpI, cmpB, satB, Bool.not_eq_true, Bool.not_eq_false, decide_eq_true_eq, decide_eq_false_iff_not, beq_iff_eq, bne_iff_ne, bne_eq_false_iff_eq, beq_eq_false_iff_ne, ne_eq, reduceCtorEq, not_true_eq_false, not_false_eq_true, pl0, if_true, cmpS_eq, cmpS_neq, Bool.not_eq_eq_eq_not, Bool.not_true, Bool.not_false, Bool.not_eq_true', add64, sub64] at h) <;> (try (exfalso; omega))) | (with_reducible refine tr_alt (fun h => ?_) ?_ <;> (try (exfalso; omega))) | (with_reducible refine tr_ob ?_ ?_) | (with_reducible refine tr_done ?_) | (refine aw_tr hj tok book0 (by cbv) ?_) | (refine aw_seq fun K hK => ?_) | (refine aw_tr1 hj tok book0 (by cbv) ?_) | (refine aw_condj (by cbv) (fun h => ?_) (fun h => ?_) <;> (try simp (disch := omega) only [hj, std, cmpI, cmpB, satB, Bool.not_eq_true, Bool.not_eq_false, decide_eq_true_eq, decide_eq_false_iff_not, beq_iff_eq, bne_iff_ne, bne_eq_false_iff_eq, beq_eq_false_iff_ne, ne_eq, reduceCtorEq, not_true_eq_false, not_false_eq_true, pl0, if_true, cmpS_eq, cmpS_neq, Bool.not_eq_eq_eq_not, Bool.not_true, Bool.not_false, Bool.not_eq_true', add64, sub64] at h) <;> (try (exfalso; omega))) | (refine aw_skip ?_) | (refine aw_block ?_) | (refine aw_exit ?_) | (refine aw_ret ⟨.inr rfl, ret_okj hj (by cbv) ?_ ?_⟩) | (refine aw_ret ?_) | (with_reducible refine th_n ?_) | (with_reducible refine th_r ?_) | (with_reducible refine th_x ?_) | (with_reducible refine blk_n ?_) | (with_reducible refine blk_r ?_) | (with_reducible refine blk_x ?_) | (with_reducible refine blk_y rfl ?_) | (refine ⟨.inr rfl, ret_okj hj (by cbv) ?_ ?_⟩) | (refine ⟨.inl rfl, ret_okj hj (by cbv) ?_ ?_⟩) | ((with_reducible refine ⟨(_, _, _, _, _, _, _), by cbv, ?_, ?_⟩)) | ((with_reducible refine ⟨(_, _, _, _, _, _), by cbv, ?_, ?_⟩)) | ((with_reducible refine ⟨(_, _, _, _, _), by cbv, ?_, ?_⟩)) | ((with_reducible refine ⟨(_, _, _, _), by cbv, ?_, ?_⟩)) | ((with_reducible refine ⟨(_, _, _), by cbv, ?_, ?_⟩)) | ((with_reducible refine ⟨(_, _), by cbv, ?_, ?_⟩)) | ((with_reducible refine ⟨_, by cbv, ?_, ?_⟩)) | (with_reducible apply_assumption -symm -exfalso only [*]))
  all_goals ((try subst y_sC); (try subst y_nS); (try subst y_hasS))
  refine aw_lpj hj [(0, .keep), (1, .keep), (5, .keep)] [] (fun (i : Int) => stOf 18 [(0, .one (.c ((C.sl (nS l) (sC l))))), (1, .one (.c (vS w))), (5, .one (.c (vI i)))] []) (fun (i : Int) => nS l - i.toNat) (fun (i : Int) => 0 ≤ i ∧ i ≤ nS l ∧ hasS l w = hasS (l.drop i.toNat) w) (0) (by generalize @sC = x_sC; generalize @nS = x_nS; generalize @hasS = x_hasS; cbv) ?_ (fun i hI => ?_)
  · exact ⟨by omega, by omega, by simp⟩
  obtain ⟨i1, i2, i3⟩ := hI
  generalize y_sC : @sC = x_sC at *
  generalize y_nS : @nS = x_nS at *
  generalize y_hasS : @hasS = x_hasS at *
  (repeat' first | (with_reducible refine tr_cut (fun h => ?_) (fun h => ?_) <;> (try simp (disch := omega) only [hj, std, cmpI, cmpB, satB, Bool.not_eq_true, Bool.not_eq_false, decide_eq_true_eq, decide_eq_false_iff_not, beq_iff_eq, bne_iff_ne, bne_eq_false_iff_eq, beq_eq_false_iff_ne, ne_eq, reduceCtorEq, not_true_eq_false, not_false_eq_true, pl0, if_true, cmpS_eq, cmpS_neq, Bool.not_eq_eq_eq_not, Bool.not_true, Bool.not_false, Bool.not_eq_true', gs_sC, add64, sub64] at h) <;> (try (exfalso; omega))) | (with_reducible refine tr_alt (fun h => ?_) ?_ <;> (try (exfalso; omega))) | (with_reducible refine tr_ob ?_ ?_) | (with_reducible refine tr_done ?_) | (refine aw_tr hj tok book0 (by cbv) ?_) | (refine aw_seq fun K hK => ?_) | (refine aw_tr1 hj tok book0 (by cbv) ?_) | (refine aw_condj (by cbv) (fun h => ?_) (fun h => ?_) <;> (try simp (disch := omega) only [hj, std, cmpI, cmpB, satB, Bool.not_eq_true, Bool.not_eq_false, decide_eq_true_eq, decide_eq_false_iff_not, beq_iff_eq, bne_iff_ne, bne_eq_false_iff_eq, beq_eq_false_iff_ne, ne_eq, reduceCtorEq, not_true_eq_false, not_false_eq_true, pl0, if_true, cmpS_eq, cmpS_neq, Bool.not_eq_eq_eq_not, Bool.not_true, Bool.not_false, Bool.not_eq_true', gs_sC, add64, sub64] at h) <;> (try (exfalso; omega))) | (refine aw_skip ?_) | (refine aw_block ?_) | (refine aw_exit ?_) | (refine aw_ret ⟨.inr rfl, ret_okj hj (by cbv) ?_ ?_⟩) | (refine aw_ret ?_) | (with_reducible refine th_n ?_) | (with_reducible refine th_r ?_) | (with_reducible refine th_x ?_) | (with_reducible refine blk_n ?_) | (with_reducible refine blk_r ?_) | (with_reducible refine blk_x ?_) | (with_reducible refine blk_y rfl ?_) | (refine ⟨.inr rfl, ret_okj hj (by cbv) ?_ ?_⟩) | (refine ⟨.inl rfl, ret_okj hj (by cbv) ?_ ?_⟩) | ((with_reducible refine ⟨(_, _, _, _, _, _, _), by cbv, ?_, ?_⟩)) | ((with_reducible refine ⟨(_, _, _, _, _, _), by cbv, ?_, ?_⟩)) | ((with_reducible refine ⟨(_, _, _, _, _), by cbv, ?_, ?_⟩)) | ((with_reducible refine ⟨(_, _, _, _), by cbv, ?_, ?_⟩)) | ((with_reducible refine ⟨(_, _, _), by cbv, ?_, ?_⟩)) | ((with_reducible refine ⟨(_, _), by cbv, ?_, ?_⟩)) | ((with_reducible refine ⟨_, by cbv, ?_, ?_⟩)) | (with_reducible apply_assumption -symm -exfalso only [*]))
  all_goals ((try subst y_sC); (try subst y_nS); (try subst y_hasS))
  all_goals (have nl := nS_eq l)
  all_goals (try have q := ‹gs (cellAt (sC l) _) = _›)
  all_goals (try have q := ‹¬ gs (cellAt (sC l) _) = _›)
  all_goals (try rw [gs_sC] at q)
  all_goals (try (repeat' first | with_reducible exact obl0 | with_reducible refine obl1 ?_ ?_))
  all_goals (try first | with_reducible exact True.intro | (refine ob_le hj ?_; (first | omega | (simp only [hj, std]; split <;> omega) | (simp (disch := omega) only [hj, std, cmpI, cmpB, satB, add64, sub64, ite0, pl0, pl2, pl3, sb0, if_true, if_false, eq_self, sC_len] <;> omega) | (simp (disch := omega) [hj, std, cmpI, cmpB, satB, add64, sub64, ite0, pl0, pl2, pl3, sb0, if_true, if_false, eq_self, sC_len] <;> omega))) | (refine ob_lei hj ?_; (first | omega | (simp only [hj, std]; split <;> omega) | (simp (disch := omega) only [hj, std, cmpI, cmpB, satB, add64, sub64, ite0, pl0, pl2, pl3, sb0, if_true, if_false, eq_self, sC_len] <;> omega) | (simp (disch := omega) [hj, std, cmpI, cmpB, satB, add64, sub64, ite0, pl0, pl2, pl3, sb0, if_true, if_false, eq_self, sC_len] <;> omega))) | (refine ob_inb hj ?_; (first | omega | (simp only [hj, std]; split <;> omega) | (simp (disch := omega) only [hj, std, cmpI, cmpB, satB, add64, sub64, ite0, pl0, pl2, pl3, sb0, if_true, if_false, eq_self, sC_len] <;> omega) | (simp (disch := omega) [hj, std, cmpI, cmpB, satB, add64, sub64, ite0, pl0, pl2, pl3, sb0, if_true, if_false, eq_self, sC_len] <;> omega))) | (refine ob_pos hj ?_; (first | omega | (simp only [hj, std]; split <;> omega) | (simp (disch := omega) only [hj, std, cmpI, cmpB, satB, add64, sub64, ite0, pl0, pl2, pl3, sb0, if_true, if_false, eq_self, sC_len] <;> omega) | (simp (disch := omega) [hj, std, cmpI, cmpB, satB, add64, sub64, ite0, pl0, pl2, pl3, sb0, if_true, if_false, eq_self, sC_len] <;> omega))) | (refine ob_ne0 hj ?_; (first | omega | (simp only [hj, std]; split <;> omega) | (simp (disch := omega) only [hj, std, cmpI, cmpB, satB, add64, sub64, ite0, pl0, pl2, pl3, sb0, if_true, if_false, eq_self, sC_len] <;> omega) | (simp (disch := omega) [hj, std, cmpI, cmpB, satB, add64, sub64, ite0, pl0, pl2, pl3, sb0, if_true, if_false, eq_self, sC_len] <;> omega))) | (refine ob_eqb hj ?_; (first | rfl | first | omega | (simp only [hj, std]; split <;> omega) | (simp (disch := omega) only [hj, std, cmpI, cmpB, satB, add64, sub64, ite0, pl0, pl2, pl3, sb0, if_true, if_false, eq_self, sC_len] <;> omega) | (simp (disch := omega) [hj, std, cmpI, cmpB, satB, add64, sub64, ite0, pl0, pl2, pl3, sb0, if_true, if_false, eq_self, sC_len] <;> omega))) | ((refine ob_ok hj ?_; simp only [hj, std, ite0]; exact ok_sC (by omega))) | ((refine r1b ?_; rw [i3, hasS_step l i i1 (by omega), q]; simp)) | ((refine r1b ?_; rw [i3, hasS_end l i (by omega)])) | ((simp (disch := omega) only [hj, std, add64]; first | omega | exact ⟨by omega, by omega, by rw [i3, hasS_step l i i1 (by omega)]; simp only [q, decide_false, Bool.false_or]⟩)))
end Go.Proofs.Ytkkieddebnhpcaa.A

/- Sets of words: order and beginning of words. -/
set_option linter.unusedSimpArgs false
set_option linter.unusedVariables false
set_option maxRecDepth 100000
set_option maxHeartbeats 4000000
namespace Go.Proofs.Ytkkieddebnhpcaa.A
open Go
theorem cutS_mm (w : ByteArray) (k : Int) : cutS w k = w.extract 0 (if (if (w.size : Int) < k then (w.size : Int) else k) > 0 then (if (w.size : Int) < k then (w.size : Int) else k) else 0).toNat := by
  have e0 : w.extract 0 0 = ByteArray.empty := by
    have : (w.extract 0 0).size = 0 := by simp
    exact ByteArray.size_eq_zero_iff.1 this
  have e1 : w.extract 0 w.size = w := by simp
  unfold cutS
  by_cases h1 : (w.size : Int) < k
  · rw [if_pos h1, if_neg (by omega), if_pos (by omega)]
    by_cases h2 : (w.size : Int) > 0
    · rw [if_pos h2]; exact e1.symm
    · rw [if_neg h2]
      have h3 : w.size = 0 := by omega
      rw [h3] at e1; exact e1.symm
  · rw [if_neg h1]
    by_cases h2 : k < 0
    · rw [if_pos h2, if_neg (by omega)]; exact e0.symm
    · rw [if_neg h2]
      have h4 : (if k > 0 then k else 0).toNat = k.toNat := by split <;> omega
      rw [h4]
      by_cases h3 : (w.size : Int) ≤ k
      · rw [if_pos h3, show k.toNat = w.size by omega]; exact e1.symm
      · rw [if_neg h3]
theorem pc_Less (a b : ByteArray) (ha : a.size < 4611686018427387904) (hb : b.size < 4611686018427387904) : PC Try.prog T 56 [.v false [vS a], .v false [vS b]] (ret1 (.st (vB (ltS a b)))) [] := by
  refine pc_of tok Try.func56 rfl (by rfl) ?_
  obtain ⟨j, hj⟩ : ∃ j : J, j = std Try.prog T := ⟨_, rfl⟩
  have hm : Try.prog.follows .mixedOrders = true := by kernel_rfl
  generalize y_ltS : @ltS = x_ltS at *
  (repeat' first | (with_reducible refine tr_cut (fun h => ?_) (fun h => ?_) <;> (try simp (disch := omega) only [hj, std, cmpI, cmpB, satB, Bool.not_eq_true, Bool.not_eq_false, decide_eq_true_eq, decide_eq_false_iff_not, beq_iff_eq, bne_iff_ne, bne_eq_false_iff_eq, beq_eq_false_iff_ne, ne_eq, reduceCtorEq, not_true_eq_false, not_false_eq_true, pl0, if_true, cmpS_eq, cmpS_neq, Bool.not_eq_eq_eq_not, Bool.not_true, Bool.not_false, Bool.not_eq_true', add64, sub64] at h) <;> (try (exfalso; omega))) | (with_reducible refine tr_alt (fun h => ?_) ?_ <;> (try (exfalso; omega))) | (with_reducible refine tr_ob ?_ ?_) | (with_reducible refine tr_done ?_) | (refine aw_tr hj tok book0 (by cbv) ?_) | (refine aw_seq fun K hK => ?_) | (refine aw_tr1 hj tok book0 (by cbv) ?_) | (refine aw_condj (by cbv) (fun h => ?_) (fun h => ?_) <;> (try simp (disch := omega) only [hj, std, cmpI, cmpB, satB, Bool.not_eq_true, Bool.not_eq_false, decide_eq_true_eq, decide_eq_false_iff_not, beq_iff_eq, bne_iff_ne, bne_eq_false_iff_eq, beq_eq_false_iff_ne, ne_eq, reduceCtorEq, not_true_eq_false, not_false_eq_true, pl0, if_true, cmpS_eq, cmpS_neq, Bool.not_eq_eq_eq_not, Bool.not_true, Bool.not_false, Bool.not_eq_true', add64, sub64] at h) <;> (try (exfalso; omega))) | (refine aw_skip ?_) | (refine aw_block ?_) | (refine aw_exit ?_) | (refine aw_ret ⟨.inr rfl, ret_okj hj (by cbv) ?_ ?_⟩) | (refine aw_ret ?_) | (with_reducible refine th_n ?_) | (with_reducible refine th_r ?_) | (with_reducible refine th_x ?_) | (with_reducible refine blk_n ?_) | (with_reducible refine blk_r ?_) | (with_reducible refine blk_x ?_) | (with_reducible refine blk_y rfl ?_) | (refine ⟨.inr rfl, ret_okj hj (by cbv) ?_ ?_⟩) | (refine ⟨.inl rfl, ret_okj hj (by cbv) ?_ ?_⟩) | ((with_reducible refine ⟨(_, _, _, _, _, _, _), by cbv, ?_, ?_⟩)) | ((with_reducible refine ⟨(_, _, _, _, _, _), by cbv, ?_, ?_⟩)) | ((with_reducible refine ⟨(_, _, _, _, _), by cbv, ?_, ?_⟩)) | ((with_reducible refine ⟨(_, _, _, _), by cbv, ?_, ?_⟩)) | ((with_reducible refine ⟨(_, _, _), by cbv, ?_, ?_⟩)) | ((with_reducible refine ⟨(_, _), by cbv, ?_, ?_⟩)) | ((with_reducible refine ⟨_, by cbv, ?_, ?_⟩)) | (with_reducible apply_assumption -symm -exfalso only [*]))
  all_goals ((try subst y_ltS))
  refine aw_lpj hj [(0, .keep), (1, .keep), (5, .keep)] [] (fun (i : Int) => stOf 37 [(0, .one (.c (vS a))), (1, .one (.c (vS b))), (5, .one (.c (vI i)))] []) (fun (i : Int) => a.size - i.toNat) (fun (i : Int) => 0 ≤ i ∧ i ≤ a.size ∧ i ≤ b.size ∧ ∀ n : Nat, (n : Int) < i → bt a n = bt b n) (0) (by generalize @ltS = x_ltS; cbv) ?_ (fun i hI => ?_)
  · exact ⟨by omega, by omega, by omega, fun n h => by omega⟩
  obtain ⟨i1, i2, i3, i4⟩ := hI
  generalize y_ltS : @ltS = x_ltS at *
  (repeat' first | (with_reducible refine tr_cut (fun h => ?_) (fun h => ?_) <;> (try simp (disch := omega) only [hj, std, cmpI, cmpB, satB, Bool.not_eq_true, Bool.not_eq_false, decide_eq_true_eq, decide_eq_false_iff_not, beq_iff_eq, bne_iff_ne, bne_eq_false_iff_eq, beq_eq_false_iff_ne, ne_eq, reduceCtorEq, not_true_eq_false, not_false_eq_true, pl0, if_true, cmpS_eq, cmpS_neq, Bool.not_eq_eq_eq_not, Bool.not_true, Bool.not_false, Bool.not_eq_true', add64, sub64] at h) <;> (try (exfalso; omega))) | (with_reducible refine tr_alt (fun h => ?_) ?_ <;> (try (exfalso; omega))) | (with_reducible refine tr_ob ?_ ?_) | (with_reducible refine tr_done ?_) | (refine aw_dr1 (id := 5) hj tok hm book0 true [(0, false), (1, false), (2, false), (3, false), (4, true), (5, true), (6, true), (7, true)] (by kernel_rfl) (by cbv) ?_) | (refine aw_dr (id := 5) hj tok hm book0 true [(0, false), (1, false), (2, false), (3, false), (4, true), (5, true), (6, true), (7, true)] (by kernel_rfl) (by cbv) ?_) | (refine aw_dr1 (id := 4) hj tok hm book0 true [(0, false), (1, false), (2, false), (3, false), (4, true), (5, true), (6, true)] (by kernel_rfl) (by cbv) ?_) | (refine aw_dr (id := 4) hj tok hm book0 true [(0, false), (1, false), (2, false), (3, false), (4, true), (5, true), (6, true)] (by kernel_rfl) (by cbv) ?_) | (refine aw_tr hj tok book0 (by cbv) ?_) | (refine aw_seq fun K hK => ?_) | (refine aw_tr1 hj tok book0 (by cbv) ?_) | (refine aw_condj (by cbv) (fun h => ?_) (fun h => ?_) <;> (try simp (disch := omega) only [hj, std, cmpI, cmpB, satB, Bool.not_eq_true, Bool.not_eq_false, decide_eq_true_eq, decide_eq_false_iff_not, beq_iff_eq, bne_iff_ne, bne_eq_false_iff_eq, beq_eq_false_iff_ne, ne_eq, reduceCtorEq, not_true_eq_false, not_false_eq_true, pl0, if_true, cmpS_eq, cmpS_neq, Bool.not_eq_eq_eq_not, Bool.not_true, Bool.not_false, Bool.not_eq_true', add64, sub64] at h) <;> (try (exfalso; omega))) | (refine aw_skip ?_) | (refine aw_block ?_) | (refine aw_exit ?_) | (refine aw_ret ⟨.inr rfl, ret_okj hj (by cbv) ?_ ?_⟩) | (refine aw_ret ?_) | (with_reducible refine th_n ?_) | (with_reducible refine th_r ?_) | (with_reducible refine th_x ?_) | (with_reducible refine blk_n ?_) | (with_reducible refine blk_r ?_) | (with_reducible refine blk_x ?_) | (with_reducible refine blk_y rfl ?_) | (refine ⟨.inr rfl, ret_okj hj (by cbv) ?_ ?_⟩) | (refine ⟨.inl rfl, ret_okj hj (by cbv) ?_ ?_⟩) | ((with_reducible refine ⟨(_, _, _, _, _, _, _), by cbv, ?_, ?_⟩)) | ((with_reducible refine ⟨(_, _, _, _, _, _), by cbv, ?_, ?_⟩)) | ((with_reducible refine ⟨(_, _, _, _, _), by cbv, ?_, ?_⟩)) | ((with_reducible refine ⟨(_, _, _, _), by cbv, ?_, ?_⟩)) | ((with_reducible refine ⟨(_, _, _), by cbv, ?_, ?_⟩)) | ((with_reducible refine ⟨(_, _), by cbv, ?_, ?_⟩)) | ((with_reducible refine ⟨_, by cbv, ?_, ?_⟩)) | (with_reducible apply_assumption -symm -exfalso only [*]))
  all_goals ((try subst y_ltS))
  all_goals (try (repeat' first | with_reducible exact obl0 | with_reducible refine obl1 ?_ ?_))
  all_goals (try first | with_reducible exact True.intro | (refine ob_le hj ?_; (first | omega | (simp only [hj, std]; split <;> omega) | (simp (disch := omega) only [hj, std, cmpI, cmpB, satB, add64, sub64, ite0, pl0, pl2, pl3, sb0, if_true, if_false, eq_self] <;> omega) | (simp (disch := omega) [hj, std, cmpI, cmpB, satB, add64, sub64, ite0, pl0, pl2, pl3, sb0, if_true, if_false, eq_self] <;> omega))) | (refine ob_lei hj ?_; (first | omega | (simp only [hj, std]; split <;> omega) | (simp (disch := omega) only [hj, std, cmpI, cmpB, satB, add64, sub64, ite0, pl0, pl2, pl3, sb0, if_true, if_false, eq_self] <;> omega) | (simp (disch := omega) [hj, std, cmpI, cmpB, satB, add64, sub64, ite0, pl0, pl2, pl3, sb0, if_true, if_false, eq_self] <;> omega))) | (refine ob_inb hj ?_; (first | omega | (simp only [hj, std]; split <;> omega) | (simp (disch := omega) only [hj, std, cmpI, cmpB, satB, add64, sub64, ite0, pl0, pl2, pl3, sb0, if_true, if_false, eq_self] <;> omega) | (simp (disch := omega) [hj, std, cmpI, cmpB, satB, add64, sub64, ite0, pl0, pl2, pl3, sb0, if_true, if_false, eq_self] <;> omega))) | (refine ob_pos hj ?_; (first | omega | (simp only [hj, std]; split <;> omega) | (simp (disch := omega) only [hj, std, cmpI, cmpB, satB, add64, sub64, ite0, pl0, pl2, pl3, sb0, if_true, if_false, eq_self] <;> omega) | (simp (disch := omega) [hj, std, cmpI, cmpB, satB, add64, sub64, ite0, pl0, pl2, pl3, sb0, if_true, if_false, eq_self] <;> omega))) | (refine ob_ne0 hj ?_; (first | omega | (simp only [hj, std]; split <;> omega) | (simp (disch := omega) only [hj, std, cmpI, cmpB, satB, add64, sub64, ite0, pl0, pl2, pl3, sb0, if_true, if_false, eq_self] <;> omega) | (simp (disch := omega) [hj, std, cmpI, cmpB, satB, add64, sub64, ite0, pl0, pl2, pl3, sb0, if_true, if_false, eq_self] <;> omega))) | (refine ob_eqb hj ?_; (first | rfl | first | omega | (simp only [hj, std]; split <;> omega) | (simp (disch := omega) only [hj, std, cmpI, cmpB, satB, add64, sub64, ite0, pl0, pl2, pl3, sb0, if_true, if_false, eq_self] <;> omega) | (simp (disch := omega) [hj, std, cmpI, cmpB, satB, add64, sub64, ite0, pl0, pl2, pl3, sb0, if_true, if_false, eq_self] <;> omega))) | ((refine r1b ?_; rw [ltS_at i1 (by assumption) (by assumption) i4 (by assumption)]; simp [hj, std, cmpI])) | ((refine r1b ?_; rw [ltS_fin i1 i2 i3 (by omega) i4]; simp [hj, std, cmpI])) | ((simp (disch := omega) only [hj, std, add64]; first | omega | (refine ⟨by omega, by omega, by omega, fun n hn => ?_⟩; by_cases e : (n : Int) < i; exact i4 n e; obtain rfl : n = i.toNat := (by omega); have q := ‹((bt a _ : Nat) : Int) = ((bt b _ : Nat) : Int)›; omega))))
theorem pc_Cut18 (w : ByteArray) (k : Int) (hw : w.size < 4611686018427387904) : PC Try.prog T 52 [.v false [vS w], .v false [vI k]] (ret1 (.st (vS (cutS w k)))) [] := by
  refine pc_of tok Try.func52 rfl (by rfl) ?_
  obtain ⟨j, hj⟩ : ∃ j : J, j = std Try.prog T := ⟨_, rfl⟩
  have hm : Try.prog.follows .mixedOrders = true := by kernel_rfl
  generalize y_cutS : @cutS = x_cutS at *
  (repeat' first | (with_reducible refine tr_cut (fun h => ?_) (fun h => ?_) <;> (try simp (disch := omega) only [hj, std, cmpI, cmpB, satB, Bool.not_eq_true, Bool.not_eq_false, decide_eq_true_eq, decide_eq_false_iff_not, beq_iff_eq, bne_iff_ne, bne_eq_false_iff_eq, beq_eq_false_iff_ne, ne_eq, reduceCtorEq, not_true_eq_false, not_false_eq_true, pl0, if_true, cmpS_eq, cmpS_neq, Bool.not_eq_eq_eq_not, Bool.not_true, Bool.not_false, Bool.not_eq_true', add64, sub64] at h) <;> (try (exfalso; omega))) | (with_reducible refine tr_alt (fun h => ?_) ?_ <;> (try (exfalso; omega))) | (with_reducible refine tr_ob ?_ ?_) | (with_reducible refine tr_done ?_) | (refine aw_tr hj tok book0 (by cbv) ?_) | (refine aw_seq fun K hK => ?_) | (refine aw_tr1 hj tok book0 (by cbv) ?_) | (refine aw_condj (by cbv) (fun h => ?_) (fun h => ?_) <;> (try simp (disch := omega) only [hj, std, cmpI, cmpB, satB, Bool.not_eq_true, Bool.not_eq_false, decide_eq_true_eq, decide_eq_false_iff_not, beq_iff_eq, bne_iff_ne, bne_eq_false_iff_eq, beq_eq_false_iff_ne, ne_eq, reduceCtorEq, not_true_eq_false, not_false_eq_true, pl0, if_true, cmpS_eq, cmpS_neq, Bool.not_eq_eq_eq_not, Bool.not_true, Bool.not_false, Bool.not_eq_true', add64, sub64] at h) <;> (try (exfalso; omega))) | (refine aw_skip ?_) | (refine aw_block ?_) | (refine aw_exit ?_) | (refine aw_ret ⟨.inr rfl, ret_okj hj (by cbv) ?_ ?_⟩) | (refine aw_ret ?_) | (with_reducible refine th_n ?_) | (with_reducible refine th_r ?_) | (with_reducible refine th_x ?_) | (with_reducible refine blk_n ?_) | (with_reducible refine blk_r ?_) | (with_reducible refine blk_x ?_) | (with_reducible refine blk_y rfl ?_) | (refine ⟨.inr rfl, ret_okj hj (by cbv) ?_ ?_⟩) | (refine ⟨.inl rfl, ret_okj hj (by cbv) ?_ ?_⟩) | ((with_reducible refine ⟨(_, _, _, _, _, _, _), by cbv, ?_, ?_⟩)) | ((with_reducible refine ⟨(_, _, _, _, _, _), by cbv, ?_, ?_⟩)) | ((with_reducible refine ⟨(_, _, _, _, _), by cbv, ?_, ?_⟩)) | ((with_reducible refine ⟨(_, _, _, _), by cbv, ?_, ?_⟩)) | ((with_reducible refine ⟨(_, _, _), by cbv, ?_, ?_⟩)) | ((with_reducible refine ⟨(_, _), by cbv, ?_, ?_⟩)) | ((with_reducible refine ⟨_, by cbv, ?_, ?_⟩)) | (with_reducible apply_assumption -symm -exfalso only [*]))
  all_goals ((try subst y_cutS))
  all_goals (try (repeat' first | with_reducible exact obl0 | with_reducible refine obl1 ?_ ?_))
  all_goals (try first | with_reducible exact True.intro | (refine ob_le hj ?_; (first | omega | (simp only [hj, std]; split <;> omega) | (simp (disch := omega) only [hj, std, cmpI, cmpB, satB, add64, sub64, ite0, pl0, pl2, pl3, sb0, if_true, if_false, eq_self] <;> omega) | (simp (disch := omega) [hj, std, cmpI, cmpB, satB, add64, sub64, ite0, pl0, pl2, pl3, sb0, if_true, if_false, eq_self] <;> omega))) | (refine ob_lei hj ?_; (first | omega | (simp only [hj, std]; split <;> omega) | (simp (disch := omega) only [hj, std, cmpI, cmpB, satB, add64, sub64, ite0, pl0, pl2, pl3, sb0, if_true, if_false, eq_self] <;> omega) | (simp (disch := omega) [hj, std, cmpI, cmpB, satB, add64, sub64, ite0, pl0, pl2, pl3, sb0, if_true, if_false, eq_self] <;> omega))) | (refine ob_inb hj ?_; (first | omega | (simp only [hj, std]; split <;> omega) | (simp (disch := omega) only [hj, std, cmpI, cmpB, satB, add64, sub64, ite0, pl0, pl2, pl3, sb0, if_true, if_false, eq_self] <;> omega) | (simp (disch := omega) [hj, std, cmpI, cmpB, satB, add64, sub64, ite0, pl0, pl2, pl3, sb0, if_true, if_false, eq_self] <;> omega))) | (refine ob_pos hj ?_; (first | omega | (simp only [hj, std]; split <;> omega) | (simp (disch := omega) only [hj, std, cmpI, cmpB, satB, add64, sub64, ite0, pl0, pl2, pl3, sb0, if_true, if_false, eq_self] <;> omega) | (simp (disch := omega) [hj, std, cmpI, cmpB, satB, add64, sub64, ite0, pl0, pl2, pl3, sb0, if_true, if_false, eq_self] <;> omega))) | (refine ob_ne0 hj ?_; (first | omega | (simp only [hj, std]; split <;> omega) | (simp (disch := omega) only [hj, std, cmpI, cmpB, satB, add64, sub64, ite0, pl0, pl2, pl3, sb0, if_true, if_false, eq_self] <;> omega) | (simp (disch := omega) [hj, std, cmpI, cmpB, satB, add64, sub64, ite0, pl0, pl2, pl3, sb0, if_true, if_false, eq_self] <;> omega))) | (refine ob_eqb hj ?_; (first | rfl | first | omega | (simp only [hj, std]; split <;> omega) | (simp (disch := omega) only [hj, std, cmpI, cmpB, satB, add64, sub64, ite0, pl0, pl2, pl3, sb0, if_true, if_false, eq_self] <;> omega) | (simp (disch := omega) [hj, std, cmpI, cmpB, satB, add64, sub64, ite0, pl0, pl2, pl3, sb0, if_true, if_false, eq_self] <;> omega))) | ((refine r1s ?_; unfold cutS; rw [if_pos (by omega)]; (try rfl))) | ((refine r1s ?_; unfold cutS; rw [if_neg (by omega), if_pos (by omega)])) | ((refine r1s ?_; unfold cutS; simp only [hj, std]; rw [if_neg (by omega), if_neg (by omega)])))
theorem pc_Cut (w : ByteArray) (k : Int) (hw : w.size < 4611686018427387904) : PC Try.prog T 87 [.v false [vS w], .v false [vI k]] (ret1 (.st (vS (cutS w k)))) [] := by
  refine pc_of tok Try.func87 rfl (by rfl) ?_
  obtain ⟨j, hj⟩ : ∃ j : J, j = std Try.prog T := ⟨_, rfl⟩
  have hm : Try.prog.follows .mixedOrders = true := by kernel_rfl
  generalize y_cutS : @cutS = x_cutS at *
  (repeat' first | (with_reducible refine tr_cut (fun h => ?_) (fun h => ?_) <;> (try simp (disch := omega) only [hj, std, cmpI, cmpB, satB, Bool.not_eq_true, Bool.not_eq_false, decide_eq_true_eq, decide_eq_false_iff_not, beq_iff_eq, bne_iff_ne, bne_eq_false_iff_eq, beq_eq_false_iff_ne, ne_eq, reduceCtorEq, not_true_eq_false, not_false_eq_true, pl0, if_true, cmpS_eq, cmpS_neq, Bool.not_eq_eq_eq_not, Bool.not_true, Bool.not_false, Bool.not_eq_true', add64, sub64] at h) <;> (try (exfalso; omega))) | (with_reducible refine tr_alt (fun h => ?_) ?_ <;> (try (exfalso; omega))) | (with_reducible refine tr_ob ?_ ?_) | (with_reducible refine tr_done ?_) | (refine aw_tr hj tok book0 (by cbv) ?_) | (refine aw_seq fun K hK => ?_) | (refine aw_tr1 hj tok book0 (by cbv) ?_) | (refine aw_condj (by cbv) (fun h => ?_) (fun h => ?_) <;> (try simp (disch := omega) only [hj, std, cmpI, cmpB, satB, Bool.not_eq_true, Bool.not_eq_false, decide_eq_true_eq, decide_eq_false_iff_not, beq_iff_eq, bne_iff_ne, bne_eq_false_iff_eq, beq_eq_false_iff_ne, ne_eq, reduceCtorEq, not_true_eq_false, not_false_eq_true, pl0, if_true, cmpS_eq, cmpS_neq, Bool.not_eq_eq_eq_not, Bool.not_true, Bool.not_false, Bool.not_eq_true', add64, sub64] at h) <;> (try (exfalso; omega))) | (refine aw_skip ?_) | (refine aw_block ?_) | (refine aw_exit ?_) | (refine aw_ret ⟨.inr rfl, ret_okj hj (by cbv) ?_ ?_⟩) | (refine aw_ret ?_) | (with_reducible refine th_n ?_) | (with_reducible refine th_r ?_) | (with_reducible refine th_x ?_) | (with_reducible refine blk_n ?_) | (with_reducible refine blk_r ?_) | (with_reducible refine blk_x ?_) | (with_reducible refine blk_y rfl ?_) | (refine ⟨.inr rfl, ret_okj hj (by cbv) ?_ ?_⟩) | (refine ⟨.inl rfl, ret_okj hj (by cbv) ?_ ?_⟩) | ((with_reducible refine ⟨(_, _, _, _, _, _, _), by cbv, ?_, ?_⟩)) | ((with_reducible refine ⟨(_, _, _, _, _, _), by cbv, ?_, ?_⟩)) | ((with_reducible refine ⟨(_, _, _, _, _), by cbv, ?_, ?_⟩)) | ((with_reducible refine ⟨(_, _, _, _), by cbv, ?_, ?_⟩)) | ((with_reducible refine ⟨(_, _, _), by cbv, ?_, ?_⟩)) | ((with_reducible refine ⟨(_, _), by cbv, ?_, ?_⟩)) | ((with_reducible refine ⟨_, by cbv, ?_, ?_⟩)) | (with_reducible apply_assumption -symm -exfalso only [*]))
  all_goals ((try subst y_cutS))
  all_goals (try (repeat' first | with_reducible exact obl0 | with_reducible refine obl1 ?_ ?_))
  all_goals (try first | with_reducible exact True.intro | (refine ob_le hj ?_; (first | omega | (simp only [hj, std]; split <;> omega) | (simp (disch := omega) only [hj, std, cmpI, cmpB, satB, add64, sub64, ite0, pl0, pl2, pl3, sb0, if_true, if_false, eq_self] <;> omega) | (simp (disch := omega) [hj, std, cmpI, cmpB, satB, add64, sub64, ite0, pl0, pl2, pl3, sb0, if_true, if_false, eq_self] <;> omega))) | (refine ob_lei hj ?_; (first | omega | (simp only [hj, std]; split <;> omega) | (simp (disch := omega) only [hj, std, cmpI, cmpB, satB, add64, sub64, ite0, pl0, pl2, pl3, sb0, if_true, if_false, eq_self] <;> omega) | (simp (disch := omega) [hj, std, cmpI, cmpB, satB, add64, sub64, ite0, pl0, pl2, pl3, sb0, if_true, if_false, eq_self] <;> omega))) | (refine ob_inb hj ?_; (first | omega | (simp only [hj, std]; split <;> omega) | (simp (disch := omega) only [hj, std, cmpI, cmpB, satB, add64, sub64, ite0, pl0, pl2, pl3, sb0, if_true, if_false, eq_self] <;> omega) | (simp (disch := omega) [hj, std, cmpI, cmpB, satB, add64, sub64, ite0, pl0, pl2, pl3, sb0, if_true, if_false, eq_self] <;> omega))) | (refine ob_pos hj ?_; (first | omega | (simp only [hj, std]; split <;> omega) | (simp (disch := omega) only [hj, std, cmpI, cmpB, satB, add64, sub64, ite0, pl0, pl2, pl3, sb0, if_true, if_false, eq_self] <;> omega) | (simp (disch := omega) [hj, std, cmpI, cmpB, satB, add64, sub64, ite0, pl0, pl2, pl3, sb0, if_true, if_false, eq_self] <;> omega))) | (refine ob_ne0 hj ?_; (first | omega | (simp only [hj, std]; split <;> omega) | (simp (disch := omega) only [hj, std, cmpI, cmpB, satB, add64, sub64, ite0, pl0, pl2, pl3, sb0, if_true, if_false, eq_self] <;> omega) | (simp (disch := omega) [hj, std, cmpI, cmpB, satB, add64, sub64, ite0, pl0, pl2, pl3, sb0, if_true, if_false, eq_self] <;> omega))) | (refine ob_eqb hj ?_; (first | rfl | first | omega | (simp only [hj, std]; split <;> omega) | (simp (disch := omega) only [hj, std, cmpI, cmpB, satB, add64, sub64, ite0, pl0, pl2, pl3, sb0, if_true, if_false, eq_self] <;> omega) | (simp (disch := omega) [hj, std, cmpI, cmpB, satB, add64, sub64, ite0, pl0, pl2, pl3, sb0, if_true, if_false, eq_self] <;> omega))) | ((refine r1s ?_; rw [hj]; exact cutS_mm w k)))
end Go.Proofs.Ytkkieddebnhpcaa.A

/- Sets of words: what looks at lists alone. -/
set_option linter.unusedSimpArgs false
set_option linter.unusedVariables false
set_option maxRecDepth 100000
set_option maxHeartbeats 4000000
namespace Go.Proofs.Ytkkieddebnhpcaa.A
open Go
def bookL (x_ltS : ByteArray → ByteArray → Bool) : Book := fun f xs => match f, xs with
  | 56, [.v false [.val (.string a)], .v false [.val (.string b)]] => some (ret1 (.st (vB (x_ltS a b))))
  | _, _ => none
theorem c_Less {a b : ByteArray} (ha : a.size < 4611686018427387904) (hb : b.size < 4611686018427387904) : PC Try.prog T 56 [.v false [vS a], .v false [vS b]] (ret1 (.st (vB (ltS a b)))) [] := pc_Less a b ha hb
theorem e_Less : Enters Try.prog 56 := enters Try.func56 (by kernel_rfl) (by kernel_rfl)
theorem pc_Same19 (l m : List ByteArray) (hl : nS l < 4611686018427387904) (hm2 : nS m < 4611686018427387904) : PC Try.prog T 15 [.v false [(C.sl (nS l) (sC l))], .v false [(C.sl (nS m) (sC m))]] (ret1 (.st (vB (sameS l m)))) [] := by
  refine pc_of tok Try.func15 rfl (by rfl) ?_
  obtain ⟨j, hj⟩ : ∃ j : J, j = std Try.prog T := ⟨_, rfl⟩
  have hm : Try.prog.follows .mixedOrders = true := by kernel_rfl
  generalize y_sC : @sC = x_sC at *
  generalize y_nS : @nS = x_nS at *
  generalize y_sameS : @sameS = x_sameS at *
  (repeat' first | (with_reducible refine tr_cut (fun h => ?_) (fun h => ?_) <;> (try simp (disch := omega) only [hj, std, cmpI, cmpB, satB, Bool.not_eq_true, Bool.not_eq_false, decide_eq_true_eq, decide_eq_false_iff_not, beq_iff_eq, bne_iff_ne, bne_eq_false_iff_eq, beq_eq_false_iff_ne, ne_eq, reduceCtorEq, not_true_eq_false, not_false_eq_true, pl0, if_true, cmpS_eq, cmpS_neq, Bool.not_eq_eq_eq_not, Bool.not_true, Bool.not_false, Bool.not_eq_true', add64, sub64] at h) <;> (try (exfalso; omega))) | (with_reducible refine tr_alt (fun h => ?_) ?_ <;> (try (exfalso; omega))) | (with_reducible refine tr_ob ?_ ?_) | (with_reducible refine tr_done ?_) | (refine aw_tr hj tok book0 (by cbv) ?_) | (refine aw_seq fun K hK => ?_) | (refine aw_tr1 hj tok book0 (by cbv) ?_) | (refine aw_condj (by cbv) (fun h => ?_) (fun h => ?_) <;> (try simp (disch := omega) only [hj, std, cmpI, cmpB, satB, Bool.not_eq_true, Bool.not_eq_false, decide_eq_true_eq, decide_eq_false_iff_not, beq_iff_eq, bne_iff_ne, bne_eq_false_iff_eq, beq_eq_false_iff_ne, ne_eq, reduceCtorEq, not_true_eq_false, not_false_eq_true, pl0, if_true, cmpS_eq, cmpS_neq, Bool.not_eq_eq_eq_not, Bool.not_true, Bool.not_false, Bool.not_eq_true', add64, sub64] at h) <;> (try (exfalso; omega))) | (refine aw_skip ?_) | (refine aw_block ?_) | (refine aw_exit ?_) | (refine aw_ret ⟨.inr rfl, ret_okj hj (by cbv) ?_ ?_⟩) | (refine aw_ret ?_) | (with_reducible refine th_n ?_) | (with_reducible refine th_r ?_) | (with_reducible refine th_x ?_) | (with_reducible refine blk_n ?_) | (with_reducible refine blk_r ?_) | (with_reducible refine blk_x ?_) | (with_reducible refine blk_y rfl ?_) | (refine ⟨.inr rfl, ret_okj hj (by cbv) ?_ ?_⟩) | (refine ⟨.inl rfl, ret_okj hj (by cbv) ?_ ?_⟩) | ((with_reducible refine ⟨(_, _, _, _, _, _, _), by cbv, ?_, ?_⟩)) | ((with_reducible refine ⟨(_, _, _, _, _, _), by cbv, ?_, ?_⟩)) | ((with_reducible refine ⟨(_, _, _, _, _), by cbv, ?_, ?_⟩)) | ((with_reducible refine ⟨(_, _, _, _), by cbv, ?_, ?_⟩)) | ((with_reducible refine ⟨(_, _, _), by cbv, ?_, ?_⟩)) | ((with_reducible refine ⟨(_, _), by cbv, ?_, ?_⟩)) | ((with_reducible refine ⟨_, by cbv, ?_, ?_⟩)) | (with_reducible apply_assumption -symm -exfalso only [*]))
  all_goals ((try subst y_sC); (try subst y_nS); (try subst y_sameS))
  all_goals (try (repeat' first | with_reducible exact obl0 | with_reducible refine obl1 ?_ ?_))
  all_goals (try first | with_reducible exact True.intro | (refine ob_le hj ?_; (first | omega | (simp only [hj, std]; split <;> omega) | (simp (disch := omega) only [hj, std, cmpI, cmpB, satB, add64, sub64, ite0, pl0, pl2, pl3, sb0, if_true, if_false, eq_self] <;> omega) | (simp (disch := omega) [hj, std, cmpI, cmpB, satB, add64, sub64, ite0, pl0, pl2, pl3, sb0, if_true, if_false, eq_self] <;> omega))) | (refine ob_lei hj ?_; (first | omega | (simp only [hj, std]; split <;> omega) | (simp (disch := omega) only [hj, std, cmpI, cmpB, satB, add64, sub64, ite0, pl0, pl2, pl3, sb0, if_true, if_false, eq_self] <;> omega) | (simp (disch := omega) [hj, std, cmpI, cmpB, satB, add64, sub64, ite0, pl0, pl2, pl3, sb0, if_true, if_false, eq_self] <;> omega))) | (refine ob_inb hj ?_; (first | omega | (simp only [hj, std]; split <;> omega) | (simp (disch := omega) only [hj, std, cmpI, cmpB, satB, add64, sub64, ite0, pl0, pl2, pl3, sb0, if_true, if_false, eq_self] <;> omega) | (simp (disch := omega) [hj, std, cmpI, cmpB, satB, add64, sub64, ite0, pl0, pl2, pl3, sb0, if_true, if_false, eq_self] <;> omega))) | (refine ob_pos hj ?_; (first | omega | (simp only [hj, std]; split <;> omega) | (simp (disch := omega) only [hj, std, cmpI, cmpB, satB, add64, sub64, ite0, pl0, pl2, pl3, sb0, if_true, if_false, eq_self] <;> omega) | (simp (disch := omega) [hj, std, cmpI, cmpB, satB, add64, sub64, ite0, pl0, pl2, pl3, sb0, if_true, if_false, eq_self] <;> omega))) | (refine ob_ne0 hj ?_; (first | omega | (simp only [hj, std]; split <;> omega) | (simp (disch := omega) only [hj, std, cmpI, cmpB, satB, add64, sub64, ite0, pl0, pl2, pl3, sb0, if_true, if_false, eq_self] <;> omega) | (simp (disch := omega) [hj, std, cmpI, cmpB, satB, add64, sub64, ite0, pl0, pl2, pl3, sb0, if_true, if_false, eq_self] <;> omega))) | (refine ob_eqb hj ?_; (first | rfl | first | omega | (simp only [hj, std]; split <;> omega) | (simp (disch := omega) only [hj, std, cmpI, cmpB, satB, add64, sub64, ite0, pl0, pl2, pl3, sb0, if_true, if_false, eq_self] <;> omega) | (simp (disch := omega) [hj, std, cmpI, cmpB, satB, add64, sub64, ite0, pl0, pl2, pl3, sb0, if_true, if_false, eq_self] <;> omega))) | ((refine r1b ?_; exact sameS_no (.inl (by omega)))))
  refine aw_lpj hj [(0, .keep), (1, .keep), (5, .keep)] [] (fun (i : Int) => stOf 26 [(0, .one (.c ((C.sl (nS l) (sC l))))), (1, .one (.c ((C.sl (nS m) (sC m))))), (5, .one (.c (vI i)))] []) (fun (i : Int) => nS l - i.toNat) (fun (i : Int) => 0 ≤ i ∧ i ≤ nS l ∧ ∀ n : Nat, (n : Int) < i → sAt l n = sAt m n) (0) (by generalize @sC = x_sC; generalize @nS = x_nS; generalize @sameS = x_sameS; cbv) ?_ (fun i hI => ?_)
  · exact ⟨by omega, by omega, fun n h => by omega⟩
  obtain ⟨i1, i2, i3⟩ := hI
  generalize y_sC : @sC = x_sC at *
  generalize y_nS : @nS = x_nS at *
  generalize y_sameS : @sameS = x_sameS at *
  (repeat' first | (with_reducible refine tr_cut (fun h => ?_) (fun h => ?_) <;> (try simp (disch := omega) only [hj, std, cmpI, cmpB, satB, Bool.not_eq_true, Bool.not_eq_false, decide_eq_true_eq, decide_eq_false_iff_not, beq_iff_eq, bne_iff_ne, bne_eq_false_iff_eq, beq_eq_false_iff_ne, ne_eq, reduceCtorEq, not_true_eq_false, not_false_eq_true, pl0, if_true, cmpS_eq, cmpS_neq, Bool.not_eq_eq_eq_not, Bool.not_true, Bool.not_false, Bool.not_eq_true', gs_sC, add64, sub64] at h) <;> (try (exfalso; omega))) | (with_reducible refine tr_alt (fun h => ?_) ?_ <;> (try (exfalso; omega))) | (with_reducible refine tr_ob ?_ ?_) | (with_reducible refine tr_done ?_) | (refine aw_dr1 (id := 6) hj tok hm book0 true [(0, false), (1, false), (2, false), (3, false), (4, false), (5, true), (6, true), (7, true), (8, true)] (by kernel_rfl) (by cbv) ?_) | (refine aw_dr (id := 6) hj tok hm book0 true [(0, false), (1, false), (2, false), (3, false), (4, false), (5, true), (6, true), (7, true), (8, true)] (by kernel_rfl) (by cbv) ?_) | (refine aw_tr hj tok book0 (by cbv) ?_) | (refine aw_seq fun K hK => ?_) | (refine aw_tr1 hj tok book0 (by cbv) ?_) | (refine aw_condj (by cbv) (fun h => ?_) (fun h => ?_) <;> (try simp (disch := omega) only [hj, std, cmpI, cmpB, satB, Bool.not_eq_true, Bool.not_eq_false, decide_eq_true_eq, decide_eq_false_iff_not, beq_iff_eq, bne_iff_ne, bne_eq_false_iff_eq, beq_eq_false_iff_ne, ne_eq, reduceCtorEq, not_true_eq_false, not_false_eq_true, pl0, if_true, cmpS_eq, cmpS_neq, Bool.not_eq_eq_eq_not, Bool.not_true, Bool.not_false, Bool.not_eq_true', gs_sC, add64, sub64] at h) <;> (try (exfalso; omega))) | (refine aw_skip ?_) | (refine aw_block ?_) | (refine aw_exit ?_) | (refine aw_ret ⟨.inr rfl, ret_okj hj (by cbv) ?_ ?_⟩) | (refine aw_ret ?_) | (with_reducible refine th_n ?_) | (with_reducible refine th_r ?_) | (with_reducible refine th_x ?_) | (with_reducible refine blk_n ?_) | (with_reducible refine blk_r ?_) | (with_reducible refine blk_x ?_) | (with_reducible refine blk_y rfl ?_) | (refine ⟨.inr rfl, ret_okj hj (by cbv) ?_ ?_⟩) | (refine ⟨.inl rfl, ret_okj hj (by cbv) ?_ ?_⟩) | ((with_reducible refine ⟨(_, _, _, _, _, _, _), by cbv, ?_, ?_⟩)) | ((with_reducible refine ⟨(_, _, _, _, _, _), by cbv, ?_, ?_⟩)) | ((with_reducible refine ⟨(_, _, _, _, _), by cbv, ?_, ?_⟩)) | ((with_reducible refine ⟨(_, _, _, _), by cbv, ?_, ?_⟩)) | ((with_reducible refine ⟨(_, _, _), by cbv, ?_, ?_⟩)) | ((with_reducible refine ⟨(_, _), by cbv, ?_, ?_⟩)) | ((with_reducible refine ⟨_, by cbv, ?_, ?_⟩)) | (with_reducible apply_assumption -symm -exfalso only [*]))
  all_goals ((try subst y_sC); (try subst y_nS); (try subst y_sameS))
  all_goals (have nl := nS_eq l; have nm := nS_eq m)
  all_goals (try have q := ‹gs (cellAt (sC l) _) = _›)
  all_goals (try have q := ‹¬ gs (cellAt (sC l) _) = _›)
  all_goals (try rw [gs_sC, gs_sC] at q)
  all_goals (try (repeat' first | with_reducible exact obl0 | with_reducible refine obl1 ?_ ?_))
  all_goals (try first | with_reducible exact True.intro | (refine ob_le hj ?_; (first | omega | (simp only [hj, std]; split <;> omega) | (simp (disch := omega) only [hj, std, cmpI, cmpB, satB, add64, sub64, ite0, pl0, pl2, pl3, sb0, if_true, if_false, eq_self, sC_len] <;> omega) | (simp (disch := omega) [hj, std, cmpI, cmpB, satB, add64, sub64, ite0, pl0, pl2, pl3, sb0, if_true, if_false, eq_self, sC_len] <;> omega))) | (refine ob_lei hj ?_; (first | omega | (simp only [hj, std]; split <;> omega) | (simp (disch := omega) only [hj, std, cmpI, cmpB, satB, add64, sub64, ite0, pl0, pl2, pl3, sb0, if_true, if_false, eq_self, sC_len] <;> omega) | (simp (disch := omega) [hj, std, cmpI, cmpB, satB, add64, sub64, ite0, pl0, pl2, pl3, sb0, if_true, if_false, eq_self, sC_len] <;> omega))) | (refine ob_inb hj ?_; (first | omega | (simp only [hj, std]; split <;> omega) | (simp (disch := omega) only [hj, std, cmpI, cmpB, satB, add64, sub64, ite0, pl0, pl2, pl3, sb0, if_true, if_false, eq_self, sC_len] <;> omega) | (simp (disch := omega) [hj, std, cmpI, cmpB, satB, add64, sub64, ite0, pl0, pl2, pl3, sb0, if_true, if_false, eq_self, sC_len] <;> omega))) | (refine ob_pos hj ?_; (first | omega | (simp only [hj, std]; split <;> omega) | (simp (disch := omega) only [hj, std, cmpI, cmpB, satB, add64, sub64, ite0, pl0, pl2, pl3, sb0, if_true, if_false, eq_self, sC_len] <;> omega) | (simp (disch := omega) [hj, std, cmpI, cmpB, satB, add64, sub64, ite0, pl0, pl2, pl3, sb0, if_true, if_false, eq_self, sC_len] <;> omega))) | (refine ob_ne0 hj ?_; (first | omega | (simp only [hj, std]; split <;> omega) | (simp (disch := omega) only [hj, std, cmpI, cmpB, satB, add64, sub64, ite0, pl0, pl2, pl3, sb0, if_true, if_false, eq_self, sC_len] <;> omega) | (simp (disch := omega) [hj, std, cmpI, cmpB, satB, add64, sub64, ite0, pl0, pl2, pl3, sb0, if_true, if_false, eq_self, sC_len] <;> omega))) | (refine ob_eqb hj ?_; (first | rfl | first | omega | (simp only [hj, std]; split <;> omega) | (simp (disch := omega) only [hj, std, cmpI, cmpB, satB, add64, sub64, ite0, pl0, pl2, pl3, sb0, if_true, if_false, eq_self, sC_len] <;> omega) | (simp (disch := omega) [hj, std, cmpI, cmpB, satB, add64, sub64, ite0, pl0, pl2, pl3, sb0, if_true, if_false, eq_self, sC_len] <;> omega))) | ((refine ob_ok hj ?_; simp only [hj, std, ite0]; exact ok_sC (by omega))) | ((refine r1b ?_; exact sameS_no (.inr ⟨_, q⟩))) | ((refine r1b ?_; exact sameS_yes (by omega) fun n hn => i3 n (by omega))) | ((simp (disch := omega) only [hj, std, add64]; first | omega | (refine ⟨by omega, by omega, fun n hn => ?_⟩; by_cases e : (n : Int) < i; exact i3 n e; obtain rfl : n = i.toNat := (by omega); exact q))))
theorem pc_Equal (l m : List ByteArray) (hl : nS l < 4611686018427387904) (hm2 : nS m < 4611686018427387904) : PC Try.prog T 58 [.v false [(C.sl (nS l) (sC l))], .v false [(C.sl (nS m) (sC m))]] (ret1 (.st (vB (sameS l m)))) [] := by
  refine pc_of tok Try.func58 rfl (by rfl) ?_
  obtain ⟨j, hj⟩ : ∃ j : J, j = std Try.prog T := ⟨_, rfl⟩
  have hm : Try.prog.follows .mixedOrders = true := by kernel_rfl
  generalize y_sC : @sC = x_sC at *
  generalize y_nS : @nS = x_nS at *
  generalize y_sameS : @sameS = x_sameS at *
  (repeat' first | (with_reducible refine tr_cut (fun h => ?_) (fun h => ?_) <;> (try simp (disch := omega) only [hj, std, cmpI, cmpB, satB, Bool.not_eq_true, Bool.not_eq_false, decide_eq_true_eq, decide_eq_false_iff_not, beq_iff_eq, bne_iff_ne, bne_eq_false_iff_eq, beq_eq_false_iff_ne, ne_eq, reduceCtorEq, not_true_eq_false, not_false_eq_true, pl0, if_true, cmpS_eq, cmpS_neq, Bool.not_eq_eq_eq_not, Bool.not_true, Bool.not_false, Bool.not_eq_true', add64, sub64] at h) <;> (try (exfalso; omega))) | (with_reducible refine tr_alt (fun h => ?_) ?_ <;> (try (exfalso; omega))) | (with_reducible refine tr_ob ?_ ?_) | (with_reducible refine tr_done ?_) | (refine aw_tr hj tok book0 (by cbv) ?_) | (refine aw_seq fun K hK => ?_) | (refine aw_tr1 hj tok book0 (by cbv) ?_) | (refine aw_condj (by cbv) (fun h => ?_) (fun h => ?_) <;> (try simp (disch := omega) only [hj, std, cmpI, cmpB, satB, Bool.not_eq_true, Bool.not_eq_false, decide_eq_true_eq, decide_eq_false_iff_not, beq_iff_eq, bne_iff_ne, bne_eq_false_iff_eq, beq_eq_false_iff_ne, ne_eq, reduceCtorEq, not_true_eq_false, not_false_eq_true, pl0, if_true, cmpS_eq, cmpS_neq, Bool.not_eq_eq_eq_not, Bool.not_true, Bool.not_false, Bool.not_eq_true', add64, sub64] at h) <;> (try (exfalso; omega))) | (refine aw_skip ?_) | (refine aw_block ?_) | (refine aw_exit ?_) | (refine aw_ret ⟨.inr rfl, ret_okj hj (by cbv) ?_ ?_⟩) | (refine aw_ret ?_) | (with_reducible refine th_n ?_) | (with_reducible refine th_r ?_) | (with_reducible refine th_x ?_) | (with_reducible refine blk_n ?_) | (with_reducible refine blk_r ?_) | (with_reducible refine blk_x ?_) | (with_reducible refine blk_y rfl ?_) | (refine ⟨.inr rfl, ret_okj hj (by cbv) ?_ ?_⟩) | (refine ⟨.inl rfl, ret_okj hj (by cbv) ?_ ?_⟩) | ((with_reducible refine ⟨(_, _, _, _, _, _, _), by cbv, ?_, ?_⟩)) | ((with_reducible refine ⟨(_, _, _, _, _, _), by cbv, ?_, ?_⟩)) | ((with_reducible refine ⟨(_, _, _, _, _), by cbv, ?_, ?_⟩)) | ((with_reducible refine ⟨(_, _, _, _), by cbv, ?_, ?_⟩)) | ((with_reducible refine ⟨(_, _, _), by cbv, ?_, ?_⟩)) | ((with_reducible refine ⟨(_, _), by cbv, ?_, ?_⟩)) | ((with_reducible refine ⟨_, by cbv, ?_, ?_⟩)) | (with_reducible apply_assumption -symm -exfalso only [*]))
  all_goals ((try subst y_sC); (try subst y_nS); (try subst y_sameS))
  all_goals (try (repeat' first | with_reducible exact obl0 | with_reducible refine obl1 ?_ ?_))
  all_goals (try first | with_reducible exact True.intro | (refine ob_le hj ?_; (first | omega | (simp only [hj, std]; split <;> omega) | (simp (disch := omega) only [hj, std, cmpI, cmpB, satB, add64, sub64, ite0, pl0, pl2, pl3, sb0, if_true, if_false, eq_self] <;> omega) | (simp (disch := omega) [hj, std, cmpI, cmpB, satB, add64, sub64, ite0, pl0, pl2, pl3, sb0, if_true, if_false, eq_self] <;> omega))) | (refine ob_lei hj ?_; (first | omega | (simp only [hj, std]; split <;> omega) | (simp (disch := omega) only [hj, std, cmpI, cmpB, satB, add64, sub64, ite0, pl0, pl2, pl3, sb0, if_true, if_false, eq_self] <;> omega) | (simp (disch := omega) [hj, std, cmpI, cmpB, satB, add64, sub64, ite0, pl0, pl2, pl3, sb0, if_true, if_false, eq_self] <;> omega))) | (refine ob_inb hj ?_; (first | omega | (simp only [hj, std]; split <;> omega) | (simp (disch := omega) only [hj, std, cmpI, cmpB, satB, add64, sub64, ite0, pl0, pl2, pl3, sb0, if_true, if_false, eq_self] <;> omega) | (simp (disch := omega) [hj, std, cmpI, cmpB, satB, add64, sub64, ite0, pl0, pl2, pl3, sb0, if_true, if_false, eq_self] <;> omega))) | (refine ob_pos hj ?_; (first | omega | (simp only [hj, std]; split <;> omega) | (simp (disch := omega) only [hj, std, cmpI, cmpB, satB, add64, sub64, ite0, pl0, pl2, pl3, sb0, if_true, if_false, eq_self] <;> omega) | (simp (disch := omega) [hj, std, cmpI, cmpB, satB, add64, sub64, ite0, pl0, pl2, pl3, sb0, if_true, if_false, eq_self] <;> omega))) | (refine ob_ne0 hj ?_; (first | omega | (simp only [hj, std]; split <;> omega) | (simp (disch := omega) only [hj, std, cmpI, cmpB, satB, add64, sub64, ite0, pl0, pl2, pl3, sb0, if_true, if_false, eq_self] <;> omega) | (simp (disch := omega) [hj, std, cmpI, cmpB, satB, add64, sub64, ite0, pl0, pl2, pl3, sb0, if_true, if_false, eq_self] <;> omega))) | (refine ob_eqb hj ?_; (first | rfl | first | omega | (simp only [hj, std]; split <;> omega) | (simp (disch := omega) only [hj, std, cmpI, cmpB, satB, add64, sub64, ite0, pl0, pl2, pl3, sb0, if_true, if_false, eq_self] <;> omega) | (simp (disch := omega) [hj, std, cmpI, cmpB, satB, add64, sub64, ite0, pl0, pl2, pl3, sb0, if_true, if_false, eq_self] <;> omega))) | ((refine r1b ?_; exact sameS_no (.inl (by omega)))))
  refine aw_lpj hj [(0, .keep), (1, .keep), (12, .keep), (13, .keep)] [] (fun (i : Int) => stOf 26 [(0, .one (.c ((C.sl (nS l) (sC l))))), (1, .one (.c ((C.sl (nS m) (sC m))))), (12, .one (.c (vI (j.ofNat (nS l))))), (13, .one (.c (vI i)))] []) (fun (i : Int) => nS l - i.toNat) (fun (i : Int) => 0 ≤ i ∧ i ≤ nS l ∧ ∀ n : Nat, (n : Int) < i → sAt l n = sAt m n) (0) (by generalize @sC = x_sC; generalize @nS = x_nS; generalize @sameS = x_sameS; cbv) ?_ (fun i hI => ?_)
  · exact ⟨by omega, by omega, fun n h => by omega⟩
  obtain ⟨i1, i2, i3⟩ := hI
  generalize y_sC : @sC = x_sC at *
  generalize y_nS : @nS = x_nS at *
  generalize y_sameS : @sameS = x_sameS at *
  (repeat' first | (with_reducible refine tr_cut (fun h => ?_) (fun h => ?_) <;> (try simp (disch := omega) only [hj, std, cmpI, cmpB, satB, Bool.not_eq_true, Bool.not_eq_false, decide_eq_true_eq, decide_eq_false_iff_not, beq_iff_eq, bne_iff_ne, bne_eq_false_iff_eq, beq_eq_false_iff_ne, ne_eq, reduceCtorEq, not_true_eq_false, not_false_eq_true, pl0, if_true, cmpS_eq, cmpS_neq, Bool.not_eq_eq_eq_not, Bool.not_true, Bool.not_false, Bool.not_eq_true', gs_sC, add64, sub64] at h) <;> (try (exfalso; omega))) | (with_reducible refine tr_alt (fun h => ?_) ?_ <;> (try (exfalso; omega))) | (with_reducible refine tr_ob ?_ ?_) | (with_reducible refine tr_done ?_) | (refine aw_dr1 (id := 6) hj tok hm book0 true [(0, false), (1, false), (2, false), (3, false), (4, false), (5, true), (6, true), (7, true), (8, true)] (by kernel_rfl) (by cbv) ?_) | (refine aw_dr (id := 6) hj tok hm book0 true [(0, false), (1, false), (2, false), (3, false), (4, false), (5, true), (6, true), (7, true), (8, true)] (by kernel_rfl) (by cbv) ?_) | (refine aw_tr hj tok book0 (by cbv) ?_) | (refine aw_seq fun K hK => ?_) | (refine aw_tr1 hj tok book0 (by cbv) ?_) | (refine aw_condj (by cbv) (fun h => ?_) (fun h => ?_) <;> (try simp (disch := omega) only [hj, std, cmpI, cmpB, satB, Bool.not_eq_true, Bool.not_eq_false, decide_eq_true_eq, decide_eq_false_iff_not, beq_iff_eq, bne_iff_ne, bne_eq_false_iff_eq, beq_eq_false_iff_ne, ne_eq, reduceCtorEq, not_true_eq_false, not_false_eq_true, pl0, if_true, cmpS_eq, cmpS_neq, Bool.not_eq_eq_eq_not, Bool.not_true, Bool.not_false, Bool.not_eq_true', gs_sC, add64, sub64] at h) <;> (try (exfalso; omega))) | (refine aw_skip ?_) | (refine aw_block ?_) | (refine aw_exit ?_) | (refine aw_ret ⟨.inr rfl, ret_okj hj (by cbv) ?_ ?_⟩) | (refine aw_ret ?_) | (with_reducible refine th_n ?_) | (with_reducible refine th_r ?_) | (with_reducible refine th_x ?_) | (with_reducible refine blk_n ?_) | (with_reducible refine blk_r ?_) | (with_reducible refine blk_x ?_) | (with_reducible refine blk_y rfl ?_) | (refine ⟨.inr rfl, ret_okj hj (by cbv) ?_ ?_⟩) | (refine ⟨.inl rfl, ret_okj hj (by cbv) ?_ ?_⟩) | ((with_reducible refine ⟨(_, _, _, _, _, _, _), by cbv, ?_, ?_⟩)) | ((with_reducible refine ⟨(_, _, _, _, _, _), by cbv, ?_, ?_⟩)) | ((with_reducible refine ⟨(_, _, _, _, _), by cbv, ?_, ?_⟩)) | ((with_reducible refine ⟨(_, _, _, _), by cbv, ?_, ?_⟩)) | ((with_reducible refine ⟨(_, _, _), by cbv, ?_, ?_⟩)) | ((with_reducible refine ⟨(_, _), by cbv, ?_, ?_⟩)) | ((with_reducible refine ⟨_, by cbv, ?_, ?_⟩)) | (with_reducible apply_assumption -symm -exfalso only [*]))
  all_goals ((try subst y_sC); (try subst y_nS); (try subst y_sameS))
  all_goals (have nl := nS_eq l; have nm := nS_eq m)
  all_goals (try have q := ‹gs (cellAt (sC l) _) = _›)
  all_goals (try have q := ‹¬ gs (cellAt (sC l) _) = _›)
  all_goals (try rw [gs_sC, gs_sC] at q)
  all_goals (try (repeat' first | with_reducible exact obl0 | with_reducible refine obl1 ?_ ?_))
  all_goals (try first | with_reducible exact True.intro | (refine ob_le hj ?_; (first | omega | (simp only [hj, std]; split <;> omega) | (simp (disch := omega) only [hj, std, cmpI, cmpB, satB, add64, sub64, ite0, pl0, pl2, pl3, sb0, if_true, if_false, eq_self, sC_len] <;> omega) | (simp (disch := omega) [hj, std, cmpI, cmpB, satB, add64, sub64, ite0, pl0, pl2, pl3, sb0, if_true, if_false, eq_self, sC_len] <;> omega))) | (refine ob_lei hj ?_; (first | omega | (simp only [hj, std]; split <;> omega) | (simp (disch := omega) only [hj, std, cmpI, cmpB, satB, add64, sub64, ite0, pl0, pl2, pl3, sb0, if_true, if_false, eq_self, sC_len] <;> omega) | (simp (disch := omega) [hj, std, cmpI, cmpB, satB, add64, sub64, ite0, pl0, pl2, pl3, sb0, if_true, if_false, eq_self, sC_len] <;> omega))) | (refine ob_inb hj ?_; (first | omega | (simp only [hj, std]; split <;> omega) | (simp (disch := omega) only [hj, std, cmpI, cmpB, satB, add64, sub64, ite0, pl0, pl2, pl3, sb0, if_true, if_false, eq_self, sC_len] <;> omega) | (simp (disch := omega) [hj, std, cmpI, cmpB, satB, add64, sub64, ite0, pl0, pl2, pl3, sb0, if_true, if_false, eq_self, sC_len] <;> omega))) | (refine ob_pos hj ?_; (first | omega | (simp only [hj, std]; split <;> omega) | (simp (disch := omega) only [hj, std, cmpI, cmpB, satB, add64, sub64, ite0, pl0, pl2, pl3, sb0, if_true, if_false, eq_self, sC_len] <;> omega) | (simp (disch := omega) [hj, std, cmpI, cmpB, satB, add64, sub64, ite0, pl0, pl2, pl3, sb0, if_true, if_false, eq_self, sC_len] <;> omega))) | (refine ob_ne0 hj ?_; (first | omega | (simp only [hj, std]; split <;> omega) | (simp (disch := omega) only [hj, std, cmpI, cmpB, satB, add64, sub64, ite0, pl0, pl2, pl3, sb0, if_true, if_false, eq_self, sC_len] <;> omega) | (simp (disch := omega) [hj, std, cmpI, cmpB, satB, add64, sub64, ite0, pl0, pl2, pl3, sb0, if_true, if_false, eq_self, sC_len] <;> omega))) | (refine ob_eqb hj ?_; (first | rfl | first | omega | (simp only [hj, std]; split <;> omega) | (simp (disch := omega) only [hj, std, cmpI, cmpB, satB, add64, sub64, ite0, pl0, pl2, pl3, sb0, if_true, if_false, eq_self, sC_len] <;> omega) | (simp (disch := omega) [hj, std, cmpI, cmpB, satB, add64, sub64, ite0, pl0, pl2, pl3, sb0, if_true, if_false, eq_self, sC_len] <;> omega))) | ((refine ob_ok hj ?_; simp only [hj, std, ite0]; exact ok_sC (by omega))) | ((refine r1b ?_; exact sameS_no (.inr ⟨_, q⟩))) | ((refine r1b ?_; exact sameS_yes (by omega) fun n hn => i3 n (by omega))) | ((simp (disch := omega) only [hj, std, add64]; first | omega | (refine ⟨by omega, by omega, fun n hn => ?_⟩; by_cases e : (n : Int) < i; exact i3 n e; obtain rfl : n = i.toNat := (by omega); exact q))))
theorem pc_Index (l : List ByteArray) (w : ByteArray) (hl : nS l < 4611686018427387904) : PC Try.prog T 90 [.v false [(C.sl (nS l) (sC l))], .v false [vS w]] (ret1 (.st (vI (idxS l w)))) [] := by
  refine pc_of tok Try.func90 rfl (by rfl) ?_
  obtain ⟨j, hj⟩ : ∃ j : J, j = std Try.prog T := ⟨_, rfl⟩
  have hm : Try.prog.follows .mixedOrders = true := by kernel_rfl
  generalize y_sC : @sC = x_sC at *
  generalize y_nS : @nS = x_nS at *
  generalize y_idxS : @idxS = x_idxS at *
  (repeat' first | (with_reducible refine tr_cut (fun h => ?_) (fun h => ?_) <;> (try simp (disch := omega) only [hj, std, cmpI, cmpB, satB, Bool.not_eq_true, Bool.not_eq_false, decide_eq_true_eq, decide_eq_false_iff_not, beq_iff_eq, bne_iff_ne, bne_eq_false_iff_eq, beq_eq_false_iff_ne, ne_eq, reduceCtorEq, not_true_eq_false, not_false_eq_true, pl0, if_true, cmpS_eq, cmpS_neq, Bool.not_eq_eq_eq_not, Bool.not_true, Bool.not_false, Bool.not_eq_true', add64, sub64] at h) <;> (try (exfalso; omega))) | (with_reducible refine tr_alt (fun h => ?_) ?_ <;> (try (exfalso; omega))) | (with_reducible refine tr_ob ?_ ?_) | (with_reducible refine tr_done ?_) | (refine aw_tr hj tok book0 (by cbv) ?_) | (refine aw_seq fun K hK => ?_) | (refine aw_tr1 hj tok book0 (by cbv) ?_) | (refine aw_condj (by cbv) (fun h => ?_) (fun h => ?_) <;> (try simp (disch := omega) only [hj, std, cmpI, cmpB, satB, Bool.not_eq_true, Bool.not_eq_false, decide_eq_true_eq, decide_eq_false_iff_not, beq_iff_eq, bne_iff_ne, bne_eq_false_iff_eq, beq_eq_false_iff_ne, ne_eq, reduceCtorEq, not_true_eq_false, not_false_eq_true, pl0, if_true, cmpS_eq, cmpS_neq, Bool.not_eq_eq_eq_not, Bool.not_true, Bool.not_false, Bool.not_eq_true', add64, sub64] at h) <;> (try (exfalso; omega))) | (refine aw_skip ?_) | (refine aw_block ?_) | (refine aw_exit ?_) | (refine aw_ret ⟨.inr rfl, ret_okj hj (by cbv) ?_ ?_⟩) | (refine aw_ret ?_) | (with_reducible refine th_n ?_) | (with_reducible refine th_r ?_) | (with_reducible refine th_x ?_) | (with_reducible refine blk_n ?_) | (with_reducible refine blk_r ?_) | (with_reducible refine blk_x ?_) | (with_reducible refine blk_y rfl ?_) | (refine ⟨.inr rfl, ret_okj hj (by cbv) ?_ ?_⟩) | (refine ⟨.inl rfl, ret_okj hj (by cbv) ?_ ?_⟩) | ((with_reducible refine ⟨(_, _, _, _, _, _, _), by cbv, ?_, ?_⟩)) | ((with_reducible refine ⟨(_, _, _, _, _, _), by cbv, ?_, ?_⟩)) | ((with_reducible refine ⟨(_, _, _, _, _), by cbv, ?_, ?_⟩)) | ((with_reducible refine ⟨(_, _, _, _), by cbv, ?_, ?_⟩)) | ((with_reducible refine ⟨(_, _, _), by cbv, ?_, ?_⟩)) | ((with_reducible refine ⟨(_, _), by cbv, ?_, ?_⟩)) | ((with_reducible refine ⟨_, by cbv, ?_, ?_⟩)) | (with_reducible apply_assumption -symm -exfalso only [*]))
  all_goals ((try subst y_sC); (try subst y_nS); (try subst y_idxS))
  refine aw_lpj hj [(0, .keep), (1, .keep), (7, .keep), (8, .keep)] [] (fun (i : Int) => stOf 19 [(0, .one (.c ((C.sl (nS l) (sC l))))), (1, .one (.c (vS w))), (7, .one (.c (vI (j.ofNat (nS l))))), (8, .one (.c (vI i)))] []) (fun (i : Int) => nS l - i.toNat) (fun (i : Int) => 0 ≤ i ∧ i ≤ nS l ∧ idxS l w = idxGo w (l.drop i.toNat) i) (0) (by generalize @sC = x_sC; generalize @nS = x_nS; generalize @idxS = x_idxS; cbv) ?_ (fun i hI => ?_)
  · exact ⟨by omega, by omega, rfl⟩
  obtain ⟨i1, i2, i3⟩ := hI
  generalize y_sC : @sC = x_sC at *
  generalize y_nS : @nS = x_nS at *
  generalize y_idxS : @idxS = x_idxS at *
  (repeat' first | (with_reducible refine tr_cut (fun h => ?_) (fun h => ?_) <;> (try simp (disch := omega) only [hj, std, cmpI, cmpB, satB, Bool.not_eq_true, Bool.not_eq_false, decide_eq_true_eq, decide_eq_false_iff_not, beq_iff_eq, bne_iff_ne, bne_eq_false_iff_eq, beq_eq_false_iff_ne, ne_eq, reduceCtorEq, not_true_eq_false, not_false_eq_true, pl0, if_true, cmpS_eq, cmpS_neq, Bool.not_eq_eq_eq_not, Bool.not_true, Bool.not_false, Bool.not_eq_true', gs_sC, add64, sub64] at h) <;> (try (exfalso; omega))) | (with_reducible refine tr_alt (fun h => ?_) ?_ <;> (try (exfalso; omega))) | (with_reducible refine tr_ob ?_ ?_) | (with_reducible refine tr_done ?_) | (refine aw_tr hj tok book0 (by cbv) ?_) | (refine aw_seq fun K hK => ?_) | (refine aw_tr1 hj tok book0 (by cbv) ?_) | (refine aw_condj (by cbv) (fun h => ?_) (fun h => ?_) <;> (try simp (disch := omega) only [hj, std, cmpI, cmpB, satB, Bool.not_eq_true, Bool.not_eq_false, decide_eq_true_eq, decide_eq_false_iff_not, beq_iff_eq, bne_iff_ne, bne_eq_false_iff_eq, beq_eq_false_iff_ne, ne_eq, reduceCtorEq, not_true_eq_false, not_false_eq_true, pl0, if_true, cmpS_eq, cmpS_neq, Bool.not_eq_eq_eq_not, Bool.not_true, Bool.not_false, Bool.not_eq_true', gs_sC, add64, sub64] at h) <;> (try (exfalso; omega))) | (refine aw_skip ?_) | (refine aw_block ?_) | (refine aw_exit ?_) | (refine aw_ret ⟨.inr rfl, ret_okj hj (by cbv) ?_ ?_⟩) | (refine aw_ret ?_) | (with_reducible refine th_n ?_) | (with_reducible refine th_r ?_) | (with_reducible refine th_x ?_) | (with_reducible refine blk_n ?_) | (with_reducible refine blk_r ?_) | (with_reducible refine blk_x ?_) | (with_reducible refine blk_y rfl ?_) | (refine ⟨.inr rfl, ret_okj hj (by cbv) ?_ ?_⟩) | (refine ⟨.inl rfl, ret_okj hj (by cbv) ?_ ?_⟩) | ((with_reducible refine ⟨(_, _, _, _, _, _, _), by cbv, ?_, ?_⟩)) | ((with_reducible refine ⟨(_, _, _, _, _, _), by cbv, ?_, ?_⟩)) | ((with_reducible refine ⟨(_, _, _, _, _), by cbv, ?_, ?_⟩)) | ((with_reducible refine ⟨(_, _, _, _), by cbv, ?_, ?_⟩)) | ((with_reducible refine ⟨(_, _, _), by cbv, ?_, ?_⟩)) | ((with_reducible refine ⟨(_, _), by cbv, ?_, ?_⟩)) | ((with_reducible refine ⟨_, by cbv, ?_, ?_⟩)) | (with_reducible apply_assumption -symm -exfalso only [*]))
  all_goals ((try subst y_sC); (try subst y_nS); (try subst y_idxS))
  all_goals (have nl := nS_eq l)
  all_goals (try have q := ‹_ = gs (cellAt (sC l) _)›)
  all_goals (try have q := ‹¬ _ = gs (cellAt (sC l) _)›)
  all_goals (try rw [gs_sC] at q)
  all_goals (try (repeat' first | with_reducible exact obl0 | with_reducible refine obl1 ?_ ?_))
  all_goals (try first | with_reducible exact True.intro | (refine ob_le hj ?_; (first | omega | (simp only [hj, std]; split <;> omega) | (simp (disch := omega) only [hj, std, cmpI, cmpB, satB, add64, sub64, ite0, pl0, pl2, pl3, sb0, if_true, if_false, eq_self, sC_len] <;> omega) | (simp (disch := omega) [hj, std, cmpI, cmpB, satB, add64, sub64, ite0, pl0, pl2, pl3, sb0, if_true, if_false, eq_self, sC_len] <;> omega))) | (refine ob_lei hj ?_; (first | omega | (simp only [hj, std]; split <;> omega) | (simp (disch := omega) only [hj, std, cmpI, cmpB, satB, add64, sub64, ite0, pl0, pl2, pl3, sb0, if_true, if_false, eq_self, sC_len] <;> omega) | (simp (disch := omega) [hj, std, cmpI, cmpB, satB, add64, sub64, ite0, pl0, pl2, pl3, sb0, if_true, if_false, eq_self, sC_len] <;> omega))) | (refine ob_inb hj ?_; (first | omega | (simp only [hj, std]; split <;> omega) | (simp (disch := omega) only [hj, std, cmpI, cmpB, satB, add64, sub64, ite0, pl0, pl2, pl3, sb0, if_true, if_false, eq_self, sC_len] <;> omega) | (simp (disch := omega) [hj, std, cmpI, cmpB, satB, add64, sub64, ite0, pl0, pl2, pl3, sb0, if_true, if_false, eq_self, sC_len] <;> omega))) | (refine ob_pos hj ?_; (first | omega | (simp only [hj, std]; split <;> omega) | (simp (disch := omega) only [hj, std, cmpI, cmpB, satB, add64, sub64, ite0, pl0, pl2, pl3, sb0, if_true, if_false, eq_self, sC_len] <;> omega) | (simp (disch := omega) [hj, std, cmpI, cmpB, satB, add64, sub64, ite0, pl0, pl2, pl3, sb0, if_true, if_false, eq_self, sC_len] <;> omega))) | (refine ob_ne0 hj ?_; (first | omega | (simp only [hj, std]; split <;> omega) | (simp (disch := omega) only [hj, std, cmpI, cmpB, satB, add64, sub64, ite0, pl0, pl2, pl3, sb0, if_true, if_false, eq_self, sC_len] <;> omega) | (simp (disch := omega) [hj, std, cmpI, cmpB, satB, add64, sub64, ite0, pl0, pl2, pl3, sb0, if_true, if_false, eq_self, sC_len] <;> omega))) | (refine ob_eqb hj ?_; (first | rfl | first | omega | (simp only [hj, std]; split <;> omega) | (simp (disch := omega) only [hj, std, cmpI, cmpB, satB, add64, sub64, ite0, pl0, pl2, pl3, sb0, if_true, if_false, eq_self, sC_len] <;> omega) | (simp (disch := omega) [hj, std, cmpI, cmpB, satB, add64, sub64, ite0, pl0, pl2, pl3, sb0, if_true, if_false, eq_self, sC_len] <;> omega))) | ((refine ob_ok hj ?_; simp only [hj, std, ite0]; exact ok_sC (by omega))) | ((refine r1i ?_; rw [i3, drop_fin l i (by assumption)]; rfl)) | ((refine r1i ?_; rw [i3, drop_step l i i1 (by assumption), idxGo, if_pos q])) | ((simp (disch := omega) only [hj, std, add64]; first | omega | (refine ⟨by omega, by omega, ?_⟩; rw [i3, drop_step l i i1 (by assumption), idxGo, if_neg q]))))
theorem e_Index : Enters Try.prog 90 := enters Try.func90 (by kernel_rfl) (by kernel_rfl)
def bookI (x_hasS : List ByteArray → ByteArray → Bool) (x_strsOf : List C → List ByteArray) (x_idxS : List ByteArray → ByteArray → Int) (x_sameS : List ByteArray → List ByteArray → Bool) : Book := fun f xs => match f, xs with
  | 90, [.v false [.sl _ cs], .v false [.val (.string w)]] => some (ret1 (.st (vI (x_idxS (x_strsOf cs) w))))
  | 57, [.v false [.sl _ cs], .v false [.val (.string w)]] => some (ret1 (.st (vB (x_hasS (x_strsOf cs) w))))
  | 58, [.v false [.sl _ cs], .v false [.sl _ ds]] => some (ret1 (.st (vB (x_sameS (x_strsOf cs) (x_strsOf ds)))))
  | _, _ => none
theorem c_Index {l : List ByteArray} {w : ByteArray} (hl : nS l < 4611686018427387904) : pc 90 [.v false [(C.sl (nS l) (sC l))], .v false [vS w]] (ret1 (.st (vI (idxS (strsOf (sC l)) w)))) := by rw [strsOf_sC]; exact ⟨e_Index, pc_Index l w hl⟩
theorem pc_Contains (l : List ByteArray) (w : ByteArray) (hl : nS l < 4611686018427387904) : PC Try.prog T 57 [.v false [(C.sl (nS l) (sC l))], .v false [vS w]] (ret1 (.st (vB (hasS l w)))) [] := by
  refine pc_of tok Try.func57 rfl (by rfl) ?_
  obtain ⟨j, hj⟩ : ∃ j : J, j = std Try.prog T := ⟨_, rfl⟩
  have hm : Try.prog.follows .mixedOrders = true := by kernel_rfl
  generalize y_hasS : @hasS = x_hasS at *
  generalize y_strsOf : @strsOf = x_strsOf at *
  generalize y_idxS : @idxS = x_idxS at *
  generalize y_sameS : @sameS = x_sameS at *
  generalize y_sC : @sC = x_sC at *
  generalize y_nS : @nS = x_nS at *
  (repeat' first | (with_reducible refine tr_cut (fun h => ?_) (fun h => ?_) <;> (try simp (disch := omega) only [hj, std, cmpI, cmpB, satB, Bool.not_eq_true, Bool.not_eq_false, decide_eq_true_eq, decide_eq_false_iff_not, beq_iff_eq, bne_iff_ne, bne_eq_false_iff_eq, beq_eq_false_iff_ne, ne_eq, reduceCtorEq, not_true_eq_false, not_false_eq_true, pl0, if_true, cmpS_eq, cmpS_neq, Bool.not_eq_eq_eq_not, Bool.not_true, Bool.not_false, Bool.not_eq_true', add64, sub64] at h) <;> (try (exfalso; omega))) | (with_reducible refine tr_alt (fun h => ?_) ?_ <;> (try (exfalso; omega))) | (with_reducible refine tr_ob ?_ ?_) | (with_reducible refine tr_done ?_) | (refine aw_tr hj tok (bookI x_hasS x_strsOf x_idxS x_sameS) (by cbv) ?_) | (refine aw_seq fun K hK => ?_) | (refine aw_tr1 hj tok (bookI x_hasS x_strsOf x_idxS x_sameS) (by cbv) ?_) | (refine aw_condj (by cbv) (fun h => ?_) (fun h => ?_) <;> (try simp (disch := omega) only [hj, std, cmpI, cmpB, satB, Bool.not_eq_true, Bool.not_eq_false, decide_eq_true_eq, decide_eq_false_iff_not, beq_iff_eq, bne_iff_ne, bne_eq_false_iff_eq, beq_eq_false_iff_ne, ne_eq, reduceCtorEq, not_true_eq_false, not_false_eq_true, pl0, if_true, cmpS_eq, cmpS_neq, Bool.not_eq_eq_eq_not, Bool.not_true, Bool.not_false, Bool.not_eq_true', add64, sub64] at h) <;> (try (exfalso; omega))) | (refine aw_skip ?_) | (refine aw_block ?_) | (refine aw_exit ?_) | (refine aw_ret ⟨.inr rfl, ret_okj hj (by cbv) ?_ ?_⟩) | (refine aw_ret ?_) | (with_reducible refine th_n ?_) | (with_reducible refine th_r ?_) | (with_reducible refine th_x ?_) | (with_reducible refine blk_n ?_) | (with_reducible refine blk_r ?_) | (with_reducible refine blk_x ?_) | (with_reducible refine blk_y rfl ?_) | (refine ⟨.inr rfl, ret_okj hj (by cbv) ?_ ?_⟩) | (refine ⟨.inl rfl, ret_okj hj (by cbv) ?_ ?_⟩) | ((with_reducible refine ⟨(_, _, _, _, _, _, _), by cbv, ?_, ?_⟩)) | ((with_reducible refine ⟨(_, _, _, _, _, _), by cbv, ?_, ?_⟩)) | ((with_reducible refine ⟨(_, _, _, _, _), by cbv, ?_, ?_⟩)) | ((with_reducible refine ⟨(_, _, _, _), by cbv, ?_, ?_⟩)) | ((with_reducible refine ⟨(_, _, _), by cbv, ?_, ?_⟩)) | ((with_reducible refine ⟨(_, _), by cbv, ?_, ?_⟩)) | ((with_reducible refine ⟨_, by cbv, ?_, ?_⟩)) | (with_reducible apply_assumption -symm -exfalso only [*]))
  all_goals ((try subst y_hasS); (try subst y_strsOf); (try subst y_idxS); (try subst y_sameS); (try subst y_sC); (try subst y_nS))
  all_goals (try (repeat' first | with_reducible exact obl0 | with_reducible refine obl1 ?_ ?_))
  all_goals (try first | with_reducible exact True.intro | (refine ob_pc hj ?_; (try rw [hj]); first | exact c_Index hl) | (refine ob_le hj ?_; (first | omega | (simp only [hj, std]; split <;> omega) | (simp (disch := omega) only [hj, std, cmpI, cmpB, satB, add64, sub64, ite0, pl0, pl2, pl3, sb0, if_true, if_false, eq_self] <;> omega) | (simp (disch := omega) [hj, std, cmpI, cmpB, satB, add64, sub64, ite0, pl0, pl2, pl3, sb0, if_true, if_false, eq_self] <;> omega))) | (refine ob_lei hj ?_; (first | omega | (simp only [hj, std]; split <;> omega) | (simp (disch := omega) only [hj, std, cmpI, cmpB, satB, add64, sub64, ite0, pl0, pl2, pl3, sb0, if_true, if_false, eq_self] <;> omega) | (simp (disch := omega) [hj, std, cmpI, cmpB, satB, add64, sub64, ite0, pl0, pl2, pl3, sb0, if_true, if_false, eq_self] <;> omega))) | (refine ob_inb hj ?_; (first | omega | (simp only [hj, std]; split <;> omega) | (simp (disch := omega) only [hj, std, cmpI, cmpB, satB, add64, sub64, ite0, pl0, pl2, pl3, sb0, if_true, if_false, eq_self] <;> omega) | (simp (disch := omega) [hj, std, cmpI, cmpB, satB, add64, sub64, ite0, pl0, pl2, pl3, sb0, if_true, if_false, eq_self] <;> omega))) | (refine ob_pos hj ?_; (first | omega | (simp only [hj, std]; split <;> omega) | (simp (disch := omega) only [hj, std, cmpI, cmpB, satB, add64, sub64, ite0, pl0, pl2, pl3, sb0, if_true, if_false, eq_self] <;> omega) | (simp (disch := omega) [hj, std, cmpI, cmpB, satB, add64, sub64, ite0, pl0, pl2, pl3, sb0, if_true, if_false, eq_self] <;> omega))) | (refine ob_ne0 hj ?_; (first | omega | (simp only [hj, std]; split <;> omega) | (simp (disch := omega) only [hj, std, cmpI, cmpB, satB, add64, sub64, ite0, pl0, pl2, pl3, sb0, if_true, if_false, eq_self] <;> omega) | (simp (disch := omega) [hj, std, cmpI, cmpB, satB, add64, sub64, ite0, pl0, pl2, pl3, sb0, if_true, if_false, eq_self] <;> omega))) | (refine ob_eqb hj ?_; (first | rfl | first | omega | (simp only [hj, std]; split <;> omega) | (simp (disch := omega) only [hj, std, cmpI, cmpB, satB, add64, sub64, ite0, pl0, pl2, pl3, sb0, if_true, if_false, eq_self] <;> omega) | (simp (disch := omega) [hj, std, cmpI, cmpB, satB, add64, sub64, ite0, pl0, pl2, pl3, sb0, if_true, if_false, eq_self] <;> omega))) | ((refine r1b ?_; rw [← idx_has]; simp [hj, std, cmpI, strsOf_sC])))
theorem c_Contains {l : List ByteArray} {w : ByteArray} (hl : nS l < 4611686018427387904) : pc 57 [.v false [(C.sl (nS l) (sC l))], .v false [vS w]] (ret1 (.st (vB (hasS (strsOf (sC l)) w)))) := by rw [strsOf_sC]; exact ⟨enters Try.func57 (by kernel_rfl) (by kernel_rfl), pc_Contains l w hl⟩
theorem pc_Has (l : List ByteArray) (w : ByteArray) (hl : nS l < 4611686018427387904) : PC Try.prog T 20 [.v false [(C.sl (nS l) (sC l))], .v false [vS w]] (ret1 (.st (vB (hasS l w)))) [] := by
  refine pc_of tok Try.func20 rfl (by rfl) ?_
  obtain ⟨j, hj⟩ : ∃ j : J, j = std Try.prog T := ⟨_, rfl⟩
  have hm : Try.prog.follows .mixedOrders = true := by kernel_rfl
  generalize y_hasS : @hasS = x_hasS at *
  generalize y_strsOf : @strsOf = x_strsOf at *
  generalize y_idxS : @idxS = x_idxS at *
  generalize y_sameS : @sameS = x_sameS at *
  generalize y_sC : @sC = x_sC at *
  generalize y_nS : @nS = x_nS at *
  (repeat' first | (with_reducible refine tr_cut (fun h => ?_) (fun h => ?_) <;> (try simp (disch := omega) only [hj, std, cmpI, cmpB, satB, Bool.not_eq_true, Bool.not_eq_false, decide_eq_true_eq, decide_eq_false_iff_not, beq_iff_eq, bne_iff_ne, bne_eq_false_iff_eq, beq_eq_false_iff_ne, ne_eq, reduceCtorEq, not_true_eq_false, not_false_eq_true, pl0, if_true, cmpS_eq, cmpS_neq, Bool.not_eq_eq_eq_not, Bool.not_true, Bool.not_false, Bool.not_eq_true', add64, sub64] at h) <;> (try (exfalso; omega))) | (with_reducible refine tr_alt (fun h => ?_) ?_ <;> (try (exfalso; omega))) | (with_reducible refine tr_ob ?_ ?_) | (with_reducible refine tr_done ?_) | (refine aw_tr hj tok (bookI x_hasS x_strsOf x_idxS x_sameS) (by cbv) ?_) | (refine aw_seq fun K hK => ?_) | (refine aw_tr1 hj tok (bookI x_hasS x_strsOf x_idxS x_sameS) (by cbv) ?_) | (refine aw_condj (by cbv) (fun h => ?_) (fun h => ?_) <;> (try simp (disch := omega) only [hj, std, cmpI, cmpB, satB, Bool.not_eq_true, Bool.not_eq_false, decide_eq_true_eq, decide_eq_false_iff_not, beq_iff_eq, bne_iff_ne, bne_eq_false_iff_eq, beq_eq_false_iff_ne, ne_eq, reduceCtorEq, not_true_eq_false, not_false_eq_true, pl0, if_true, cmpS_eq, cmpS_neq, Bool.not_eq_eq_eq_not, Bool.not_true, Bool.not_false, Bool.not_eq_true', add64, sub64] at h) <;> (try (exfalso; omega))) | (refine aw_skip ?_) | (refine aw_block ?_) | (refine aw_exit ?_) | (refine aw_ret ⟨.inr rfl, ret_okj hj (by cbv) ?_ ?_⟩) | (refine aw_ret ?_) | (with_reducible refine th_n ?_) | (with_reducible refine th_r ?_) | (with_reducible refine th_x ?_) | (with_reducible refine blk_n ?_) | (with_reducible refine blk_r ?_) | (with_reducible refine blk_x ?_) | (with_reducible refine blk_y rfl ?_) | (refine ⟨.inr rfl, ret_okj hj (by cbv) ?_ ?_⟩) | (refine ⟨.inl rfl, ret_okj hj (by cbv) ?_ ?_⟩) | ((with_reducible refine ⟨(_, _, _, _, _, _, _), by cbv, ?_, ?_⟩)) | ((with_reducible refine ⟨(_, _, _, _, _, _), by cbv, ?_, ?_⟩)) | ((with_reducible refine ⟨(_, _, _, _, _), by cbv, ?_, ?_⟩)) | ((with_reducible refine ⟨(_, _, _, _), by cbv, ?_, ?_⟩)) | ((with_reducible refine ⟨(_, _, _), by cbv, ?_, ?_⟩)) | ((with_reducible refine ⟨(_, _), by cbv, ?_, ?_⟩)) | ((with_reducible refine ⟨_, by cbv, ?_, ?_⟩)) | (with_reducible apply_assumption -symm -exfalso only [*]))
  all_goals ((try subst y_hasS); (try subst y_strsOf); (try subst y_idxS); (try subst y_sameS); (try subst y_sC); (try subst y_nS))
  all_goals (try (repeat' first | with_reducible exact obl0 | with_reducible refine obl1 ?_ ?_))
  all_goals (try first | with_reducible exact True.intro | (refine ob_pc hj ?_; (try rw [hj]); first | exact c_Contains hl) | (refine ob_le hj ?_; (first | omega | (simp only [hj, std]; split <;> omega) | (simp (disch := omega) only [hj, std, cmpI, cmpB, satB, add64, sub64, ite0, pl0, pl2, pl3, sb0, if_true, if_false, eq_self] <;> omega) | (simp (disch := omega) [hj, std, cmpI, cmpB, satB, add64, sub64, ite0, pl0, pl2, pl3, sb0, if_true, if_false, eq_self] <;> omega))) | (refine ob_lei hj ?_; (first | omega | (simp only [hj, std]; split <;> omega) | (simp (disch := omega) only [hj, std, cmpI, cmpB, satB, add64, sub64, ite0, pl0, pl2, pl3, sb0, if_true, if_false, eq_self] <;> omega) | (simp (disch := omega) [hj, std, cmpI, cmpB, satB, add64, sub64, ite0, pl0, pl2, pl3, sb0, if_true, if_false, eq_self] <;> omega))) | (refine ob_inb hj ?_; (first | omega | (simp only [hj, std]; split <;> omega) | (simp (disch := omega) only [hj, std, cmpI, cmpB, satB, add64, sub64, ite0, pl0, pl2, pl3, sb0, if_true, if_false, eq_self] <;> omega) | (simp (disch := omega) [hj, std, cmpI, cmpB, satB, add64, sub64, ite0, pl0, pl2, pl3, sb0, if_true, if_false, eq_self] <;> omega))) | (refine ob_pos hj ?_; (first | omega | (simp only [hj, std]; split <;> omega) | (simp (disch := omega) only [hj, std, cmpI, cmpB, satB, add64, sub64, ite0, pl0, pl2, pl3, sb0, if_true, if_false, eq_self] <;> omega) | (simp (disch := omega) [hj, std, cmpI, cmpB, satB, add64, sub64, ite0, pl0, pl2, pl3, sb0, if_true, if_false, eq_self] <;> omega))) | (refine ob_ne0 hj ?_; (first | omega | (simp only [hj, std]; split <;> omega) | (simp (disch := omega) only [hj, std, cmpI, cmpB, satB, add64, sub64, ite0, pl0, pl2, pl3, sb0, if_true, if_false, eq_self] <;> omega) | (simp (disch := omega) [hj, std, cmpI, cmpB, satB, add64, sub64, ite0, pl0, pl2, pl3, sb0, if_true, if_false, eq_self] <;> omega))) | (refine ob_eqb hj ?_; (first | rfl | first | omega | (simp only [hj, std]; split <;> omega) | (simp (disch := omega) only [hj, std, cmpI, cmpB, satB, add64, sub64, ite0, pl0, pl2, pl3, sb0, if_true, if_false, eq_self] <;> omega) | (simp (disch := omega) [hj, std, cmpI, cmpB, satB, add64, sub64, ite0, pl0, pl2, pl3, sb0, if_true, if_false, eq_self] <;> omega))) | ((refine r1b ?_; rw [strsOf_sC])))
theorem c_Equal {l m : List ByteArray} (hl : nS l < 4611686018427387904) (hm : nS m < 4611686018427387904) : pc 58 [.v false [(C.sl (nS l) (sC l))], .v false [(C.sl (nS m) (sC m))]] (ret1 (.st (vB (sameS (strsOf (sC l)) (strsOf (sC m)))))) := by rw [strsOf_sC, strsOf_sC]; exact ⟨enters Try.func58 (by kernel_rfl) (by kernel_rfl), pc_Equal l m hl hm⟩
theorem pc_SameP (l m : List ByteArray) (hl : nS l < 4611686018427387904) (hm2 : nS m < 4611686018427387904) : PC Try.prog T 22 [.v false [(C.sl (nS l) (sC l))], .v false [(C.sl (nS m) (sC m))]] (ret1 (.st (vB (sameS l m)))) [] := by
  refine pc_of tok Try.func22 rfl (by rfl) ?_
  obtain ⟨j, hj⟩ : ∃ j : J, j = std Try.prog T := ⟨_, rfl⟩
  have hm : Try.prog.follows .mixedOrders = true := by kernel_rfl
  generalize y_hasS : @hasS = x_hasS at *
  generalize y_strsOf : @strsOf = x_strsOf at *
  generalize y_idxS : @idxS = x_idxS at *
  generalize y_sameS : @sameS = x_sameS at *
  generalize y_sC : @sC = x_sC at *
  generalize y_nS : @nS = x_nS at *
  (repeat' first | (with_reducible refine tr_cut (fun h => ?_) (fun h => ?_) <;> (try simp (disch := omega) only [hj, std, cmpI, cmpB, satB, Bool.not_eq_true, Bool.not_eq_false, decide_eq_true_eq, decide_eq_false_iff_not, beq_iff_eq, bne_iff_ne, bne_eq_false_iff_eq, beq_eq_false_iff_ne, ne_eq, reduceCtorEq, not_true_eq_false, not_false_eq_true, pl0, if_true, cmpS_eq, cmpS_neq, Bool.not_eq_eq_eq_not, Bool.not_true, Bool.not_false, Bool.not_eq_true', add64, sub64] at h) <;> (try (exfalso; omega))) | (with_reducible refine tr_alt (fun h => ?_) ?_ <;> (try (exfalso; omega))) | (with_reducible refine tr_ob ?_ ?_) | (with_reducible refine tr_done ?_) | (refine aw_tr hj tok (bookI x_hasS x_strsOf x_idxS x_sameS) (by cbv) ?_) | (refine aw_seq fun K hK => ?_) | (refine aw_tr1 hj tok (bookI x_hasS x_strsOf x_idxS x_sameS) (by cbv) ?_) | (refine aw_condj (by cbv) (fun h => ?_) (fun h => ?_) <;> (try simp (disch := omega) only [hj, std, cmpI, cmpB, satB, Bool.not_eq_true, Bool.not_eq_false, decide_eq_true_eq, decide_eq_false_iff_not, beq_iff_eq, bne_iff_ne, bne_eq_false_iff_eq, beq_eq_false_iff_ne, ne_eq, reduceCtorEq, not_true_eq_false, not_false_eq_true, pl0, if_true, cmpS_eq, cmpS_neq, Bool.not_eq_eq_eq_not, Bool.not_true, Bool.not_false, Bool.not_eq_true', add64, sub64] at h) <;> (try (exfalso; omega))) | (refine aw_skip ?_) | (refine aw_block ?_) | (refine aw_exit ?_) | (refine aw_ret ⟨.inr rfl, ret_okj hj (by cbv) ?_ ?_⟩) | (refine aw_ret ?_) | (with_reducible refine th_n ?_) | (with_reducible refine th_r ?_) | (with_reducible refine th_x ?_) | (with_reducible refine blk_n ?_) | (with_reducible refine blk_r ?_) | (with_reducible refine blk_x ?_) | (with_reducible refine blk_y rfl ?_) | (refine ⟨.inr rfl, ret_okj hj (by cbv) ?_ ?_⟩) | (refine ⟨.inl rfl, ret_okj hj (by cbv) ?_ ?_⟩) | ((with_reducible refine ⟨(_, _, _, _, _, _, _), by cbv, ?_, ?_⟩)) | ((with_reducible refine ⟨(_, _, _, _, _, _), by cbv, ?_, ?_⟩)) | ((with_reducible refine ⟨(_, _, _, _, _), by cbv, ?_, ?_⟩)) | ((with_reducible refine ⟨(_, _, _, _), by cbv, ?_, ?_⟩)) | ((with_reducible refine ⟨(_, _, _), by cbv, ?_, ?_⟩)) | ((with_reducible refine ⟨(_, _), by cbv, ?_, ?_⟩)) | ((with_reducible refine ⟨_, by cbv, ?_, ?_⟩)) | (with_reducible apply_assumption -symm -exfalso only [*]))
  all_goals ((try subst y_hasS); (try subst y_strsOf); (try subst y_idxS); (try subst y_sameS); (try subst y_sC); (try subst y_nS))
  all_goals (try (repeat' first | with_reducible exact obl0 | with_reducible refine obl1 ?_ ?_))
  all_goals (try first | with_reducible exact True.intro | (refine ob_pc hj ?_; (try rw [hj]); first | exact c_Equal hl hm2) | (refine ob_le hj ?_; (first | omega | (simp only [hj, std]; split <;> omega) | (simp (disch := omega) only [hj, std, cmpI, cmpB, satB, add64, sub64, ite0, pl0, pl2, pl3, sb0, if_true, if_false, eq_self] <;> omega) | (simp (disch := omega) [hj, std, cmpI, cmpB, satB, add64, sub64, ite0, pl0, pl2, pl3, sb0, if_true, if_false, eq_self] <;> omega))) | (refine ob_lei hj ?_; (first | omega | (simp only [hj, std]; split <;> omega) | (simp (disch := omega) only [hj, std, cmpI, cmpB, satB, add64, sub64, ite0, pl0, pl2, pl3, sb0, if_true, if_false, eq_self] <;> omega) | (simp (disch := omega) [hj, std, cmpI, cmpB, satB, add64, sub64, ite0, pl0, pl2, pl3, sb0, if_true, if_false, eq_self] <;> omega))) | (refine ob_inb hj ?_; (first | omega | (simp only [hj, std]; split <;> omega) | (simp (disch := omega) only [hj, std, cmpI, cmpB, satB, add64, sub64, ite0, pl0, pl2, pl3, sb0, if_true, if_false, eq_self] <;> omega) | (simp (disch := omega) [hj, std, cmpI, cmpB, satB, add64, sub64, ite0, pl0, pl2, pl3, sb0, if_true, if_false, eq_self] <;> omega))) | (refine ob_pos hj ?_; (first | omega | (simp only [hj, std]; split <;> omega) | (simp (disch := omega) only [hj, std, cmpI, cmpB, satB, add64, sub64, ite0, pl0, pl2, pl3, sb0, if_true, if_false, eq_self] <;> omega) | (simp (disch := omega) [hj, std, cmpI, cmpB, satB, add64, sub64, ite0, pl0, pl2, pl3, sb0, if_true, if_false, eq_self] <;> omega))) | (refine ob_ne0 hj ?_; (first | omega | (simp only [hj, std]; split <;> omega) | (simp (disch := omega) only [hj, std, cmpI, cmpB, satB, add64, sub64, ite0, pl0, pl2, pl3, sb0, if_true, if_false, eq_self] <;> omega) | (simp (disch := omega) [hj, std, cmpI, cmpB, satB, add64, sub64, ite0, pl0, pl2, pl3, sb0, if_true, if_false, eq_self] <;> omega))) | (refine ob_eqb hj ?_; (first | rfl | first | omega | (simp only [hj, std]; split <;> omega) | (simp (disch := omega) only [hj, std, cmpI, cmpB, satB, add64, sub64, ite0, pl0, pl2, pl3, sb0, if_true, if_false, eq_self] <;> omega) | (simp (disch := omega) [hj, std, cmpI, cmpB, satB, add64, sub64, ite0, pl0, pl2, pl3, sb0, if_true, if_false, eq_self] <;> omega))) | ((refine r1b ?_; rw [strsOf_sC, strsOf_sC])))
end Go.Proofs.Ytkkieddebnhpcaa.A

/- Sets of words: is it a set; put; the reference's set. -/
set_option linter.unusedSimpArgs false
set_option linter.unusedVariables false
set_option maxRecDepth 100000
set_option maxHeartbeats 4000000
namespace Go.Proofs.Ytkkieddebnhpcaa.A
open Go
theorem c_LessF {a b : ByteArray} (ha : a.size ≤ 100) (hb : b.size ≤ 100) : pc 56 [.v false [vS a], .v false [vS b]] (ret1 (.st (vB (ltS a b)))) := ⟨e_Less, pc_Less a b (by omega) (by omega)⟩
theorem small_at {l : List ByteArray} (h : ∀ s ∈ l, s.size ≤ 100) (i : Int) (h0 : 0 ≤ i) (h1 : i < nS l) : (gs (cellAt (sC l) i.toNat)).size ≤ 100 := by rw [gs_sC]; exact h _ (sAt_mem l i h0 h1)
theorem few_of {l : List ByteArray} (h : nS l ≤ 60) (k : ∀ n : Nat, n < nS l → (sAt l n).size ≤ 20) : nS l ≤ 60 ∧ ∀ s ∈ l, s.size ≤ 20 := by
  refine ⟨h, fun s hs => ?_⟩
  obtain ⟨i, hi, rfl⟩ := List.getElem_of_mem hs
  have h1 := nS_eq l
  have := k i (by omega)
  rw [sAt, List.getD_eq_getElem?_getD, List.getElem?_eq_getElem hi] at this
  exact this
theorem pc_Is (l : List ByteArray) (hl : nS l < 4611686018427387904) : PC Try.prog T 17 [.v false [(C.sl (nS l) (sC l))]] (ret1 (.st (vB (isS l)))) [] := by
  refine pc_of tok Try.func17 rfl (by rfl) ?_
  obtain ⟨j, hj⟩ : ∃ j : J, j = std Try.prog T := ⟨_, rfl⟩
  have hm : Try.prog.follows .mixedOrders = true := by kernel_rfl
  generalize y_sC : @sC = x_sC at *
  generalize y_nS : @nS = x_nS at *
  generalize y_ltS : @ltS = x_ltS at *
  generalize y_isS : @isS = x_isS at *
  (repeat' first | (with_reducible refine tr_cut (fun h => ?_) (fun h => ?_) <;> (try simp (disch := omega) only [hj, std, cmpI, cmpB, satB, Bool.not_eq_true, Bool.not_eq_false, decide_eq_true_eq, decide_eq_false_iff_not, beq_iff_eq, bne_iff_ne, bne_eq_false_iff_eq, beq_eq_false_iff_ne, ne_eq, reduceCtorEq, not_true_eq_false, not_false_eq_true, pl0, if_true, cmpS_eq, cmpS_neq, Bool.not_eq_eq_eq_not, Bool.not_true, Bool.not_false, Bool.not_eq_true', add64, sub64] at h) <;> (try (exfalso; omega))) | (with_reducible refine tr_alt (fun h => ?_) ?_ <;> (try (exfalso; omega))) | (with_reducible refine tr_ob ?_ ?_) | (with_reducible refine tr_done ?_) | (refine aw_tr hj tok book0 (by cbv) ?_) | (refine aw_seq fun K hK => ?_) | (refine aw_tr1 hj tok book0 (by cbv) ?_) | (refine aw_condj (by cbv) (fun h => ?_) (fun h => ?_) <;> (try simp (disch := omega) only [hj, std, cmpI, cmpB, satB, Bool.not_eq_true, Bool.not_eq_false, decide_eq_true_eq, decide_eq_false_iff_not, beq_iff_eq, bne_iff_ne, bne_eq_false_iff_eq, beq_eq_false_iff_ne, ne_eq, reduceCtorEq, not_true_eq_false, not_false_eq_true, pl0, if_true, cmpS_eq, cmpS_neq, Bool.not_eq_eq_eq_not, Bool.not_true, Bool.not_false, Bool.not_eq_true', add64, sub64] at h) <;> (try (exfalso; omega))) | (refine aw_skip ?_) | (refine aw_block ?_) | (refine aw_exit ?_) | (refine aw_ret ⟨.inr rfl, ret_okj hj (by cbv) ?_ ?_⟩) | (refine aw_ret ?_) | (with_reducible refine th_n ?_) | (with_reducible refine th_r ?_) | (with_reducible refine th_x ?_) | (with_reducible refine blk_n ?_) | (with_reducible refine blk_r ?_) | (with_reducible refine blk_x ?_) | (with_reducible refine blk_y rfl ?_) | (refine ⟨.inr rfl, ret_okj hj (by cbv) ?_ ?_⟩) | (refine ⟨.inl rfl, ret_okj hj (by cbv) ?_ ?_⟩) | ((with_reducible refine ⟨(_, _, _, _, _, _, _), by cbv, ?_, ?_⟩)) | ((with_reducible refine ⟨(_, _, _, _, _, _), by cbv, ?_, ?_⟩)) | ((with_reducible refine ⟨(_, _, _, _, _), by cbv, ?_, ?_⟩)) | ((with_reducible refine ⟨(_, _, _, _), by cbv, ?_, ?_⟩)) | ((with_reducible refine ⟨(_, _, _), by cbv, ?_, ?_⟩)) | ((with_reducible refine ⟨(_, _), by cbv, ?_, ?_⟩)) | ((with_reducible refine ⟨_, by cbv, ?_, ?_⟩)) | (with_reducible apply_assumption -symm -exfalso only [*]))
  all_goals ((try subst y_sC); (try subst y_nS); (try subst y_ltS); (try subst y_isS))
  refine aw_lpj hj [(0, .keep), (3, .keep)] [] (fun (i : Int) => stOf 20 [(0, .one (.c ((C.sl (nS l) (sC l))))), (3, .one (.c (vI i)))] []) (fun (i : Int) => nS l + 1 - i.toNat) (fun (i : Int) => 1 ≤ i ∧ (i ≤ nS l ∨ i = 1) ∧ ∀ n : Nat, (n : Int) + 1 < i → ltS (sAt l n) (sAt l (n + 1)) = true) (1) (by generalize @sC = x_sC; generalize @nS = x_nS; generalize @ltS = x_ltS; generalize @isS = x_isS; cbv) ?_ (fun i hI => ?_)
  · exact ⟨by omega, by omega, fun n h => by omega⟩
  obtain ⟨i1, i2, i3⟩ := hI
  generalize y_sC : @sC = x_sC at *
  generalize y_nS : @nS = x_nS at *
  generalize y_ltS : @ltS = x_ltS at *
  generalize y_isS : @isS = x_isS at *
  (repeat' first | (with_reducible refine tr_cut (fun h => ?_) (fun h => ?_) <;> (try simp (disch := omega) only [hj, std, cmpI, cmpB, satB, Bool.not_eq_true, Bool.not_eq_false, decide_eq_true_eq, decide_eq_false_iff_not, beq_iff_eq, bne_iff_ne, bne_eq_false_iff_eq, beq_eq_false_iff_ne, ne_eq, reduceCtorEq, not_true_eq_false, not_false_eq_true, pl0, if_true, cmpS_eq, cmpS_neq, Bool.not_eq_eq_eq_not, Bool.not_true, Bool.not_false, Bool.not_eq_true', gs_sC, cmpS_geq, add64, sub64] at h) <;> (try (exfalso; omega))) | (with_reducible refine tr_alt (fun h => ?_) ?_ <;> (try (exfalso; omega))) | (with_reducible refine tr_ob ?_ ?_) | (with_reducible refine tr_done ?_) | (refine aw_dr1 (id := 4) hj tok hm book0 true [(0, false), (1, false), (2, false), (3, false), (4, false), (5, false), (6, true), (7, true), (8, true), (9, true)] (by kernel_rfl) (by cbv) ?_) | (refine aw_dr (id := 4) hj tok hm book0 true [(0, false), (1, false), (2, false), (3, false), (4, false), (5, false), (6, true), (7, true), (8, true), (9, true)] (by kernel_rfl) (by cbv) ?_) | (refine aw_tr hj tok book0 (by cbv) ?_) | (refine aw_seq fun K hK => ?_) | (refine aw_tr1 hj tok book0 (by cbv) ?_) | (refine aw_condj (by cbv) (fun h => ?_) (fun h => ?_) <;> (try simp (disch := omega) only [hj, std, cmpI, cmpB, satB, Bool.not_eq_true, Bool.not_eq_false, decide_eq_true_eq, decide_eq_false_iff_not, beq_iff_eq, bne_iff_ne, bne_eq_false_iff_eq, beq_eq_false_iff_ne, ne_eq, reduceCtorEq, not_true_eq_false, not_false_eq_true, pl0, if_true, cmpS_eq, cmpS_neq, Bool.not_eq_eq_eq_not, Bool.not_true, Bool.not_false, Bool.not_eq_true', gs_sC, cmpS_geq, add64, sub64] at h) <;> (try (exfalso; omega))) | (refine aw_skip ?_) | (refine aw_block ?_) | (refine aw_exit ?_) | (refine aw_ret ⟨.inr rfl, ret_okj hj (by cbv) ?_ ?_⟩) | (refine aw_ret ?_) | (with_reducible refine th_n ?_) | (with_reducible refine th_r ?_) | (with_reducible refine th_x ?_) | (with_reducible refine blk_n ?_) | (with_reducible refine blk_r ?_) | (with_reducible refine blk_x ?_) | (with_reducible refine blk_y rfl ?_) | (refine ⟨.inr rfl, ret_okj hj (by cbv) ?_ ?_⟩) | (refine ⟨.inl rfl, ret_okj hj (by cbv) ?_ ?_⟩) | ((with_reducible refine ⟨(_, _, _, _, _, _, _), by cbv, ?_, ?_⟩)) | ((with_reducible refine ⟨(_, _, _, _, _, _), by cbv, ?_, ?_⟩)) | ((with_reducible refine ⟨(_, _, _, _, _), by cbv, ?_, ?_⟩)) | ((with_reducible refine ⟨(_, _, _, _), by cbv, ?_, ?_⟩)) | ((with_reducible refine ⟨(_, _, _), by cbv, ?_, ?_⟩)) | ((with_reducible refine ⟨(_, _), by cbv, ?_, ?_⟩)) | ((with_reducible refine ⟨_, by cbv, ?_, ?_⟩)) | (with_reducible apply_assumption -symm -exfalso only [*]))
  all_goals ((try subst y_sC); (try subst y_nS); (try subst y_ltS); (try subst y_isS))
  all_goals (have nl := nS_eq l)
  all_goals (try have e9 : arithI .sub .i64 i 1 = i - 1 := sub64 (by omega) (by omega))
  all_goals (try have e8 : i.toNat = (i - 1).toNat + 1 := by omega)
  all_goals (try have q := ‹ltS _ _ = true›)
  all_goals (try have q := ‹ltS _ _ = false›)
  all_goals (try rw [gs_sC, gs_sC, e8] at q)
  all_goals (try (repeat' first | with_reducible exact obl0 | with_reducible refine obl1 ?_ ?_))
  all_goals (try first | with_reducible exact True.intro | (refine ob_le hj ?_; (first | omega | (simp only [hj, std]; split <;> omega) | (simp (disch := omega) only [hj, std, cmpI, cmpB, satB, add64, sub64, ite0, pl0, pl2, pl3, sb0, if_true, if_false, eq_self, sC_len] <;> omega) | (simp (disch := omega) [hj, std, cmpI, cmpB, satB, add64, sub64, ite0, pl0, pl2, pl3, sb0, if_true, if_false, eq_self, sC_len] <;> omega))) | (refine ob_lei hj ?_; (first | omega | (simp only [hj, std]; split <;> omega) | (simp (disch := omega) only [hj, std, cmpI, cmpB, satB, add64, sub64, ite0, pl0, pl2, pl3, sb0, if_true, if_false, eq_self, sC_len] <;> omega) | (simp (disch := omega) [hj, std, cmpI, cmpB, satB, add64, sub64, ite0, pl0, pl2, pl3, sb0, if_true, if_false, eq_self, sC_len] <;> omega))) | (refine ob_inb hj ?_; (first | omega | (simp only [hj, std]; split <;> omega) | (simp (disch := omega) only [hj, std, cmpI, cmpB, satB, add64, sub64, ite0, pl0, pl2, pl3, sb0, if_true, if_false, eq_self, sC_len] <;> omega) | (simp (disch := omega) [hj, std, cmpI, cmpB, satB, add64, sub64, ite0, pl0, pl2, pl3, sb0, if_true, if_false, eq_self, sC_len] <;> omega))) | (refine ob_pos hj ?_; (first | omega | (simp only [hj, std]; split <;> omega) | (simp (disch := omega) only [hj, std, cmpI, cmpB, satB, add64, sub64, ite0, pl0, pl2, pl3, sb0, if_true, if_false, eq_self, sC_len] <;> omega) | (simp (disch := omega) [hj, std, cmpI, cmpB, satB, add64, sub64, ite0, pl0, pl2, pl3, sb0, if_true, if_false, eq_self, sC_len] <;> omega))) | (refine ob_ne0 hj ?_; (first | omega | (simp only [hj, std]; split <;> omega) | (simp (disch := omega) only [hj, std, cmpI, cmpB, satB, add64, sub64, ite0, pl0, pl2, pl3, sb0, if_true, if_false, eq_self, sC_len] <;> omega) | (simp (disch := omega) [hj, std, cmpI, cmpB, satB, add64, sub64, ite0, pl0, pl2, pl3, sb0, if_true, if_false, eq_self, sC_len] <;> omega))) | (refine ob_eqb hj ?_; (first | rfl | first | omega | (simp only [hj, std]; split <;> omega) | (simp (disch := omega) only [hj, std, cmpI, cmpB, satB, add64, sub64, ite0, pl0, pl2, pl3, sb0, if_true, if_false, eq_self, sC_len] <;> omega) | (simp (disch := omega) [hj, std, cmpI, cmpB, satB, add64, sub64, ite0, pl0, pl2, pl3, sb0, if_true, if_false, eq_self, sC_len] <;> omega))) | ((refine ob_ok hj ?_; simp only [hj, std, ite0, e9]; exact ok_sC (by omega))) | ((refine ob_le hj ?_; simp only [hj, std, ite0, e9, sC_len]; omega)) | ((refine ob_inb hj ?_; simp only [hj, std, ite0, e9]; omega)) | ((refine r1b ?_; exact isS_yes fun n hn => i3 n (by omega))) | ((refine r1b ?_; exact isS_no (i - 1).toNat (by omega) q)) | ((simp (disch := omega) only [hj, std, add64]; first | omega | (refine ⟨by omega, by omega, fun n hn => ?_⟩; by_cases e : (n : Int) + 1 < i; exact i3 n e; obtain rfl : n = (i - 1).toNat := (by omega); exact q))))
theorem pc_is19 (l : List ByteArray) (hl : nS l < 4611686018427387904) (hsz : ∀ s ∈ l, s.size ≤ 100) : PC Try.prog T 19 [.v false [(C.sl (nS l) (sC l))]] (ret1 (.st (vB (isS l)))) [] := by
  refine pc_of tok Try.func19 rfl (by rfl) ?_
  obtain ⟨j, hj⟩ : ∃ j : J, j = std Try.prog T := ⟨_, rfl⟩
  have hm : Try.prog.follows .mixedOrders = true := by kernel_rfl
  generalize y_ltS : @ltS = x_ltS at *
  generalize y_sC : @sC = x_sC at *
  generalize y_nS : @nS = x_nS at *
  generalize y_isS : @isS = x_isS at *
  (repeat' first | (with_reducible refine tr_cut (fun h => ?_) (fun h => ?_) <;> (try simp (disch := omega) only [hj, std, cmpI, cmpB, satB, Bool.not_eq_true, Bool.not_eq_false, decide_eq_true_eq, decide_eq_false_iff_not, beq_iff_eq, bne_iff_ne, bne_eq_false_iff_eq, beq_eq_false_iff_ne, ne_eq, reduceCtorEq, not_true_eq_false, not_false_eq_true, pl0, if_true, cmpS_eq, cmpS_neq, Bool.not_eq_eq_eq_not, Bool.not_true, Bool.not_false, Bool.not_eq_true', add64, sub64] at h) <;> (try (exfalso; omega))) | (with_reducible refine tr_alt (fun h => ?_) ?_ <;> (try (exfalso; omega))) | (with_reducible refine tr_ob ?_ ?_) | (with_reducible refine tr_done ?_) | (refine aw_tr hj tok (bookL x_ltS) (by cbv) ?_) | (refine aw_seq fun K hK => ?_) | (refine aw_tr1 hj tok (bookL x_ltS) (by cbv) ?_) | (refine aw_condj (by cbv) (fun h => ?_) (fun h => ?_) <;> (try simp (disch := omega) only [hj, std, cmpI, cmpB, satB, Bool.not_eq_true, Bool.not_eq_false, decide_eq_true_eq, decide_eq_false_iff_not, beq_iff_eq, bne_iff_ne, bne_eq_false_iff_eq, beq_eq_false_iff_ne, ne_eq, reduceCtorEq, not_true_eq_false, not_false_eq_true, pl0, if_true, cmpS_eq, cmpS_neq, Bool.not_eq_eq_eq_not, Bool.not_true, Bool.not_false, Bool.not_eq_true', add64, sub64] at h) <;> (try (exfalso; omega))) | (refine aw_skip ?_) | (refine aw_block ?_) | (refine aw_exit ?_) | (refine aw_ret ⟨.inr rfl, ret_okj hj (by cbv) ?_ ?_⟩) | (refine aw_ret ?_) | (with_reducible refine th_n ?_) | (with_reducible refine th_r ?_) | (with_reducible refine th_x ?_) | (with_reducible refine blk_n ?_) | (with_reducible refine blk_r ?_) | (with_reducible refine blk_x ?_) | (with_reducible refine blk_y rfl ?_) | (refine ⟨.inr rfl, ret_okj hj (by cbv) ?_ ?_⟩) | (refine ⟨.inl rfl, ret_okj hj (by cbv) ?_ ?_⟩) | ((with_reducible refine ⟨(_, _, _, _, _, _, _), by cbv, ?_, ?_⟩)) | ((with_reducible refine ⟨(_, _, _, _, _, _), by cbv, ?_, ?_⟩)) | ((with_reducible refine ⟨(_, _, _, _, _), by cbv, ?_, ?_⟩)) | ((with_reducible refine ⟨(_, _, _, _), by cbv, ?_, ?_⟩)) | ((with_reducible refine ⟨(_, _, _), by cbv, ?_, ?_⟩)) | ((with_reducible refine ⟨(_, _), by cbv, ?_, ?_⟩)) | ((with_reducible refine ⟨_, by cbv, ?_, ?_⟩)) | (with_reducible apply_assumption -symm -exfalso only [*]))
  all_goals ((try subst y_ltS); (try subst y_sC); (try subst y_nS); (try subst y_isS))
  refine aw_lpj hj [(0, .keep), (3, .keep)] [] (fun (i : Int) => stOf 21 [(0, .one (.c ((C.sl (nS l) (sC l))))), (3, .one (.c (vI i)))] []) (fun (i : Int) => nS l + 1 - i.toNat) (fun (i : Int) => 1 ≤ i ∧ (i ≤ nS l ∨ i = 1) ∧ ∀ n : Nat, (n : Int) + 1 < i → ltS (sAt l n) (sAt l (n + 1)) = true) (1) (by generalize @ltS = x_ltS; generalize @sC = x_sC; generalize @nS = x_nS; generalize @isS = x_isS; cbv) ?_ (fun i hI => ?_)
  · exact ⟨by omega, by omega, fun n h => by omega⟩
  obtain ⟨i1, i2, i3⟩ := hI
  generalize y_ltS : @ltS = x_ltS at *
  generalize y_sC : @sC = x_sC at *
  generalize y_nS : @nS = x_nS at *
  generalize y_isS : @isS = x_isS at *
  (repeat' first | (with_reducible refine tr_cut (fun h => ?_) (fun h => ?_) <;> (try simp (disch := omega) only [hj, std, cmpI, cmpB, satB, Bool.not_eq_true, Bool.not_eq_false, decide_eq_true_eq, decide_eq_false_iff_not, beq_iff_eq, bne_iff_ne, bne_eq_false_iff_eq, beq_eq_false_iff_ne, ne_eq, reduceCtorEq, not_true_eq_false, not_false_eq_true, pl0, if_true, cmpS_eq, cmpS_neq, Bool.not_eq_eq_eq_not, Bool.not_true, Bool.not_false, Bool.not_eq_true', gs_sC, add64, sub64] at h) <;> (try (exfalso; omega))) | (with_reducible refine tr_alt (fun h => ?_) ?_ <;> (try (exfalso; omega))) | (with_reducible refine tr_ob ?_ ?_) | (with_reducible refine tr_done ?_) | (refine aw_dr1 (id := 4) hj tok hm (bookL x_ltS) true [(0, false), (1, false), (2, false), (3, false), (4, false), (5, false), (6, true), (7, true), (8, true), (9, true), (10, true)] (by kernel_rfl) (by cbv) ?_) | (refine aw_dr (id := 4) hj tok hm (bookL x_ltS) true [(0, false), (1, false), (2, false), (3, false), (4, false), (5, false), (6, true), (7, true), (8, true), (9, true), (10, true)] (by kernel_rfl) (by cbv) ?_) | (refine aw_tr hj tok (bookL x_ltS) (by cbv) ?_) | (refine aw_seq fun K hK => ?_) | (refine aw_tr1 hj tok (bookL x_ltS) (by cbv) ?_) | (refine aw_condj (by cbv) (fun h => ?_) (fun h => ?_) <;> (try simp (disch := omega) only [hj, std, cmpI, cmpB, satB, Bool.not_eq_true, Bool.not_eq_false, decide_eq_true_eq, decide_eq_false_iff_not, beq_iff_eq, bne_iff_ne, bne_eq_false_iff_eq, beq_eq_false_iff_ne, ne_eq, reduceCtorEq, not_true_eq_false, not_false_eq_true, pl0, if_true, cmpS_eq, cmpS_neq, Bool.not_eq_eq_eq_not, Bool.not_true, Bool.not_false, Bool.not_eq_true', gs_sC, add64, sub64] at h) <;> (try (exfalso; omega))) | (refine aw_skip ?_) | (refine aw_block ?_) | (refine aw_exit ?_) | (refine aw_ret ⟨.inr rfl, ret_okj hj (by cbv) ?_ ?_⟩) | (refine aw_ret ?_) | (with_reducible refine th_n ?_) | (with_reducible refine th_r ?_) | (with_reducible refine th_x ?_) | (with_reducible refine blk_n ?_) | (with_reducible refine blk_r ?_) | (with_reducible refine blk_x ?_) | (with_reducible refine blk_y rfl ?_) | (refine ⟨.inr rfl, ret_okj hj (by cbv) ?_ ?_⟩) | (refine ⟨.inl rfl, ret_okj hj (by cbv) ?_ ?_⟩) | ((with_reducible refine ⟨(_, _, _, _, _, _, _), by cbv, ?_, ?_⟩)) | ((with_reducible refine ⟨(_, _, _, _, _, _), by cbv, ?_, ?_⟩)) | ((with_reducible refine ⟨(_, _, _, _, _), by cbv, ?_, ?_⟩)) | ((with_reducible refine ⟨(_, _, _, _), by cbv, ?_, ?_⟩)) | ((with_reducible refine ⟨(_, _, _), by cbv, ?_, ?_⟩)) | ((with_reducible refine ⟨(_, _), by cbv, ?_, ?_⟩)) | ((with_reducible refine ⟨_, by cbv, ?_, ?_⟩)) | (with_reducible apply_assumption -symm -exfalso only [*]))
  all_goals ((try subst y_ltS); (try subst y_sC); (try subst y_nS); (try subst y_isS))
  all_goals (have nl := nS_eq l)
  all_goals (try have e9 : arithI .sub .i64 i 1 = i - 1 := sub64 (by omega) (by omega))
  all_goals (try have e8 : i.toNat = (i - 1).toNat + 1 := by omega)
  all_goals (try have q := ‹ltS _ _ = true›)
  all_goals (try have q := ‹ltS _ _ = false›)
  all_goals (try rw [gs_sC, gs_sC, e8] at q)
  all_goals (try (repeat' first | with_reducible exact obl0 | with_reducible refine obl1 ?_ ?_))
  all_goals (try first | with_reducible exact True.intro | (refine ob_pc hj ?_; (try rw [hj]); first | exact c_LessF (small_at hsz _ (by simp only [hj, std, e9]; omega) (by simp only [hj, std, e9]; omega)) (small_at hsz _ (by omega) (by omega))) | (refine ob_le hj ?_; (first | omega | (simp only [hj, std]; split <;> omega) | (simp (disch := omega) only [hj, std, cmpI, cmpB, satB, add64, sub64, ite0, pl0, pl2, pl3, sb0, if_true, if_false, eq_self, sC_len] <;> omega) | (simp (disch := omega) [hj, std, cmpI, cmpB, satB, add64, sub64, ite0, pl0, pl2, pl3, sb0, if_true, if_false, eq_self, sC_len] <;> omega))) | (refine ob_lei hj ?_; (first | omega | (simp only [hj, std]; split <;> omega) | (simp (disch := omega) only [hj, std, cmpI, cmpB, satB, add64, sub64, ite0, pl0, pl2, pl3, sb0, if_true, if_false, eq_self, sC_len] <;> omega) | (simp (disch := omega) [hj, std, cmpI, cmpB, satB, add64, sub64, ite0, pl0, pl2, pl3, sb0, if_true, if_false, eq_self, sC_len] <;> omega))) | (refine ob_inb hj ?_; (first | omega | (simp only [hj, std]; split <;> omega) | (simp (disch := omega) only [hj, std, cmpI, cmpB, satB, add64, sub64, ite0, pl0, pl2, pl3, sb0, if_true, if_false, eq_self, sC_len] <;> omega) | (simp (disch := omega) [hj, std, cmpI, cmpB, satB, add64, sub64, ite0, pl0, pl2, pl3, sb0, if_true, if_false, eq_self, sC_len] <;> omega))) | (refine ob_pos hj ?_; (first | omega | (simp only [hj, std]; split <;> omega) | (simp (disch := omega) only [hj, std, cmpI, cmpB, satB, add64, sub64, ite0, pl0, pl2, pl3, sb0, if_true, if_false, eq_self, sC_len] <;> omega) | (simp (disch := omega) [hj, std, cmpI, cmpB, satB, add64, sub64, ite0, pl0, pl2, pl3, sb0, if_true, if_false, eq_self, sC_len] <;> omega))) | (refine ob_ne0 hj ?_; (first | omega | (simp only [hj, std]; split <;> omega) | (simp (disch := omega) only [hj, std, cmpI, cmpB, satB, add64, sub64, ite0, pl0, pl2, pl3, sb0, if_true, if_false, eq_self, sC_len] <;> omega) | (simp (disch := omega) [hj, std, cmpI, cmpB, satB, add64, sub64, ite0, pl0, pl2, pl3, sb0, if_true, if_false, eq_self, sC_len] <;> omega))) | (refine ob_eqb hj ?_; (first | rfl | first | omega | (simp only [hj, std]; split <;> omega) | (simp (disch := omega) only [hj, std, cmpI, cmpB, satB, add64, sub64, ite0, pl0, pl2, pl3, sb0, if_true, if_false, eq_self, sC_len] <;> omega) | (simp (disch := omega) [hj, std, cmpI, cmpB, satB, add64, sub64, ite0, pl0, pl2, pl3, sb0, if_true, if_false, eq_self, sC_len] <;> omega))) | ((refine ob_ok hj ?_; simp only [hj, std, ite0, e9]; exact ok_sC (by omega))) | ((refine ob_le hj ?_; simp only [hj, std, ite0, e9, sC_len]; omega)) | ((refine ob_inb hj ?_; simp only [hj, std, ite0, e9]; omega)) | ((refine r1b ?_; exact isS_yes fun n hn => i3 n (by omega))) | ((refine r1b ?_; exact isS_no (i - 1).toNat (by omega) q)) | ((simp (disch := omega) only [hj, std, add64]; first | omega | (refine ⟨by omega, by omega, fun n hn => ?_⟩; by_cases e : (n : Int) + 1 < i; exact i3 n e; obtain rfl : n = (i - 1).toNat := (by omega); exact q))))
theorem pc_few (l : List ByteArray) (hl : nS l < 4611686018427387904) : PC Try.prog T 11 [.v false [(C.sl (nS l) (sC l))]] (ret1 (.st (vB (fewS l)))) [] := by
  refine pc_of tok Try.func11 rfl (by rfl) ?_
  obtain ⟨j, hj⟩ : ∃ j : J, j = std Try.prog T := ⟨_, rfl⟩
  have hm : Try.prog.follows .mixedOrders = true := by kernel_rfl
  generalize y_sC : @sC = x_sC at *
  generalize y_nS : @nS = x_nS at *
  generalize y_fewS : @fewS = x_fewS at *
  (repeat' first | (with_reducible refine tr_cut (fun h => ?_) (fun h => ?_) <;> (try simp (disch := omega) only [hj, std, cmpI, cmpB, satB, Bool.not_eq_true, Bool.not_eq_false, decide_eq_true_eq, decide_eq_false_iff_not, beq_iff_eq, bne_iff_ne, bne_eq_false_iff_eq, beq_eq_false_iff_ne, ne_eq, reduceCtorEq, not_true_eq_false, not_false_eq_true, pl0, if_true, cmpS_eq, cmpS_neq, Bool.not_eq_eq_eq_not, Bool.not_true, Bool.not_false, Bool.not_eq_true', add64, sub64] at h) <;> (try (exfalso; omega))) | (with_reducible refine tr_alt (fun h => ?_) ?_ <;> (try (exfalso; omega))) | (with_reducible refine tr_ob ?_ ?_) | (with_reducible refine tr_done ?_) | (refine aw_tr hj tok book0 (by cbv) ?_) | (refine aw_seq fun K hK => ?_) | (refine aw_tr1 hj tok book0 (by cbv) ?_) | (refine aw_condj (by cbv) (fun h => ?_) (fun h => ?_) <;> (try simp (disch := omega) only [hj, std, cmpI, cmpB, satB, Bool.not_eq_true, Bool.not_eq_false, decide_eq_true_eq, decide_eq_false_iff_not, beq_iff_eq, bne_iff_ne, bne_eq_false_iff_eq, beq_eq_false_iff_ne, ne_eq, reduceCtorEq, not_true_eq_false, not_false_eq_true, pl0, if_true, cmpS_eq, cmpS_neq, Bool.not_eq_eq_eq_not, Bool.not_true, Bool.not_false, Bool.not_eq_true', add64, sub64] at h) <;> (try (exfalso; omega))) | (refine aw_skip ?_) | (refine aw_block ?_) | (refine aw_exit ?_) | (refine aw_ret ⟨.inr rfl, ret_okj hj (by cbv) ?_ ?_⟩) | (refine aw_ret ?_) | (with_reducible refine th_n ?_) | (with_reducible refine th_r ?_) | (with_reducible refine th_x ?_) | (with_reducible refine blk_n ?_) | (with_reducible refine blk_r ?_) | (with_reducible refine blk_x ?_) | (with_reducible refine blk_y rfl ?_) | (refine ⟨.inr rfl, ret_okj hj (by cbv) ?_ ?_⟩) | (refine ⟨.inl rfl, ret_okj hj (by cbv) ?_ ?_⟩) | ((with_reducible refine ⟨(_, _, _, _, _, _, _), by cbv, ?_, ?_⟩)) | ((with_reducible refine ⟨(_, _, _, _, _, _), by cbv, ?_, ?_⟩)) | ((with_reducible refine ⟨(_, _, _, _, _), by cbv, ?_, ?_⟩)) | ((with_reducible refine ⟨(_, _, _, _), by cbv, ?_, ?_⟩)) | ((with_reducible refine ⟨(_, _, _), by cbv, ?_, ?_⟩)) | ((with_reducible refine ⟨(_, _), by cbv, ?_, ?_⟩)) | ((with_reducible refine ⟨_, by cbv, ?_, ?_⟩)) | (with_reducible apply_assumption -symm -exfalso only [*]))
  all_goals ((try subst y_sC); (try subst y_nS); (try subst y_fewS))
  all_goals (try (repeat' first | with_reducible exact obl0 | with_reducible refine obl1 ?_ ?_))
  all_goals (try first | with_reducible exact True.intro | (refine ob_le hj ?_; (first | omega | (simp only [hj, std]; split <;> omega) | (simp (disch := omega) only [hj, std, cmpI, cmpB, satB, add64, sub64, ite0, pl0, pl2, pl3, sb0, if_true, if_false, eq_self] <;> omega) | (simp (disch := omega) [hj, std, cmpI, cmpB, satB, add64, sub64, ite0, pl0, pl2, pl3, sb0, if_true, if_false, eq_self] <;> omega))) | (refine ob_lei hj ?_; (first | omega | (simp only [hj, std]; split <;> omega) | (simp (disch := omega) only [hj, std, cmpI, cmpB, satB, add64, sub64, ite0, pl0, pl2, pl3, sb0, if_true, if_false, eq_self] <;> omega) | (simp (disch := omega) [hj, std, cmpI, cmpB, satB, add64, sub64, ite0, pl0, pl2, pl3, sb0, if_true, if_false, eq_self] <;> omega))) | (refine ob_inb hj ?_; (first | omega | (simp only [hj, std]; split <;> omega) | (simp (disch := omega) only [hj, std, cmpI, cmpB, satB, add64, sub64, ite0, pl0, pl2, pl3, sb0, if_true, if_false, eq_self] <;> omega) | (simp (disch := omega) [hj, std, cmpI, cmpB, satB, add64, sub64, ite0, pl0, pl2, pl3, sb0, if_true, if_false, eq_self] <;> omega))) | (refine ob_pos hj ?_; (first | omega | (simp only [hj, std]; split <;> omega) | (simp (disch := omega) only [hj, std, cmpI, cmpB, satB, add64, sub64, ite0, pl0, pl2, pl3, sb0, if_true, if_false, eq_self] <;> omega) | (simp (disch := omega) [hj, std, cmpI, cmpB, satB, add64, sub64, ite0, pl0, pl2, pl3, sb0, if_true, if_false, eq_self] <;> omega))) | (refine ob_ne0 hj ?_; (first | omega | (simp only [hj, std]; split <;> omega) | (simp (disch := omega) only [hj, std, cmpI, cmpB, satB, add64, sub64, ite0, pl0, pl2, pl3, sb0, if_true, if_false, eq_self] <;> omega) | (simp (disch := omega) [hj, std, cmpI, cmpB, satB, add64, sub64, ite0, pl0, pl2, pl3, sb0, if_true, if_false, eq_self] <;> omega))) | (refine ob_eqb hj ?_; (first | rfl | first | omega | (simp only [hj, std]; split <;> omega) | (simp (disch := omega) only [hj, std, cmpI, cmpB, satB, add64, sub64, ite0, pl0, pl2, pl3, sb0, if_true, if_false, eq_self] <;> omega) | (simp (disch := omega) [hj, std, cmpI, cmpB, satB, add64, sub64, ite0, pl0, pl2, pl3, sb0, if_true, if_false, eq_self] <;> omega))) | ((refine r1b ?_; cases e : fewS l; rfl; have := (fewS_iff.1 e).1; omega)))
  refine aw_lpj hj [(0, .keep), (3, .keep)] [] (fun (i : Int) => stOf 19 [(0, .one (.c ((C.sl (nS l) (sC l))))), (3, .one (.c (vI i)))] []) (fun (i : Int) => nS l - i.toNat) (fun (i : Int) => 0 ≤ i ∧ i ≤ nS l ∧ ∀ n : Nat, (n : Int) < i → (sAt l n).size ≤ 20) (0) (by generalize @sC = x_sC; generalize @nS = x_nS; generalize @fewS = x_fewS; cbv) ?_ (fun i hI => ?_)
  · exact ⟨by omega, by omega, fun n h => by omega⟩
  obtain ⟨i1, i2, i3⟩ := hI
  generalize y_sC : @sC = x_sC at *
  generalize y_nS : @nS = x_nS at *
  generalize y_fewS : @fewS = x_fewS at *
  (repeat' first | (with_reducible refine tr_cut (fun h => ?_) (fun h => ?_) <;> (try simp (disch := omega) only [hj, std, cmpI, cmpB, satB, Bool.not_eq_true, Bool.not_eq_false, decide_eq_true_eq, decide_eq_false_iff_not, beq_iff_eq, bne_iff_ne, bne_eq_false_iff_eq, beq_eq_false_iff_ne, ne_eq, reduceCtorEq, not_true_eq_false, not_false_eq_true, pl0, if_true, cmpS_eq, cmpS_neq, Bool.not_eq_eq_eq_not, Bool.not_true, Bool.not_false, Bool.not_eq_true', gs_sC, add64, sub64] at h) <;> (try (exfalso; omega))) | (with_reducible refine tr_alt (fun h => ?_) ?_ <;> (try (exfalso; omega))) | (with_reducible refine tr_ob ?_ ?_) | (with_reducible refine tr_done ?_) | (refine aw_tr hj tok book0 (by cbv) ?_) | (refine aw_seq fun K hK => ?_) | (refine aw_tr1 hj tok book0 (by cbv) ?_) | (refine aw_condj (by cbv) (fun h => ?_) (fun h => ?_) <;> (try simp (disch := omega) only [hj, std, cmpI, cmpB, satB, Bool.not_eq_true, Bool.not_eq_false, decide_eq_true_eq, decide_eq_false_iff_not, beq_iff_eq, bne_iff_ne, bne_eq_false_iff_eq, beq_eq_false_iff_ne, ne_eq, reduceCtorEq, not_true_eq_false, not_false_eq_true, pl0, if_true, cmpS_eq, cmpS_neq, Bool.not_eq_eq_eq_not, Bool.not_true, Bool.not_false, Bool.not_eq_true', gs_sC, add64, sub64] at h) <;> (try (exfalso; omega))) | (refine aw_skip ?_) | (refine aw_block ?_) | (refine aw_exit ?_) | (refine aw_ret ⟨.inr rfl, ret_okj hj (by cbv) ?_ ?_⟩) | (refine aw_ret ?_) | (with_reducible refine th_n ?_) | (with_reducible refine th_r ?_) | (with_reducible refine th_x ?_) | (with_reducible refine blk_n ?_) | (with_reducible refine blk_r ?_) | (with_reducible refine blk_x ?_) | (with_reducible refine blk_y rfl ?_) | (refine ⟨.inr rfl, ret_okj hj (by cbv) ?_ ?_⟩) | (refine ⟨.inl rfl, ret_okj hj (by cbv) ?_ ?_⟩) | ((with_reducible refine ⟨(_, _, _, _, _, _, _), by cbv, ?_, ?_⟩)) | ((with_reducible refine ⟨(_, _, _, _, _, _), by cbv, ?_, ?_⟩)) | ((with_reducible refine ⟨(_, _, _, _, _), by cbv, ?_, ?_⟩)) | ((with_reducible refine ⟨(_, _, _, _), by cbv, ?_, ?_⟩)) | ((with_reducible refine ⟨(_, _, _), by cbv, ?_, ?_⟩)) | ((with_reducible refine ⟨(_, _), by cbv, ?_, ?_⟩)) | ((with_reducible refine ⟨_, by cbv, ?_, ?_⟩)) | (with_reducible apply_assumption -symm -exfalso only [*]))
  all_goals ((try subst y_sC); (try subst y_nS); (try subst y_fewS))
  all_goals (have nl := nS_eq l)
  all_goals (try have q := ‹((gs (cellAt (sC l) _)).size : Int) > 20›)
  all_goals (try have q := ‹¬ ((gs (cellAt (sC l) _)).size : Int) > 20›)
  all_goals (try rw [gs_sC] at q)
  all_goals (try (repeat' first | with_reducible exact obl0 | with_reducible refine obl1 ?_ ?_))
  all_goals (try first | with_reducible exact True.intro | (refine ob_le hj ?_; (first | omega | (simp only [hj, std]; split <;> omega) | (simp (disch := omega) only [hj, std, cmpI, cmpB, satB, add64, sub64, ite0, pl0, pl2, pl3, sb0, if_true, if_false, eq_self, sC_len] <;> omega) | (simp (disch := omega) [hj, std, cmpI, cmpB, satB, add64, sub64, ite0, pl0, pl2, pl3, sb0, if_true, if_false, eq_self, sC_len] <;> omega))) | (refine ob_lei hj ?_; (first | omega | (simp only [hj, std]; split <;> omega) | (simp (disch := omega) only [hj, std, cmpI, cmpB, satB, add64, sub64, ite0, pl0, pl2, pl3, sb0, if_true, if_false, eq_self, sC_len] <;> omega) | (simp (disch := omega) [hj, std, cmpI, cmpB, satB, add64, sub64, ite0, pl0, pl2, pl3, sb0, if_true, if_false, eq_self, sC_len] <;> omega))) | (refine ob_inb hj ?_; (first | omega | (simp only [hj, std]; split <;> omega) | (simp (disch := omega) only [hj, std, cmpI, cmpB, satB, add64, sub64, ite0, pl0, pl2, pl3, sb0, if_true, if_false, eq_self, sC_len] <;> omega) | (simp (disch := omega) [hj, std, cmpI, cmpB, satB, add64, sub64, ite0, pl0, pl2, pl3, sb0, if_true, if_false, eq_self, sC_len] <;> omega))) | (refine ob_pos hj ?_; (first | omega | (simp only [hj, std]; split <;> omega) | (simp (disch := omega) only [hj, std, cmpI, cmpB, satB, add64, sub64, ite0, pl0, pl2, pl3, sb0, if_true, if_false, eq_self, sC_len] <;> omega) | (simp (disch := omega) [hj, std, cmpI, cmpB, satB, add64, sub64, ite0, pl0, pl2, pl3, sb0, if_true, if_false, eq_self, sC_len] <;> omega))) | (refine ob_ne0 hj ?_; (first | omega | (simp only [hj, std]; split <;> omega) | (simp (disch := omega) only [hj, std, cmpI, cmpB, satB, add64, sub64, ite0, pl0, pl2, pl3, sb0, if_true, if_false, eq_self, sC_len] <;> omega) | (simp (disch := omega) [hj, std, cmpI, cmpB, satB, add64, sub64, ite0, pl0, pl2, pl3, sb0, if_true, if_false, eq_self, sC_len] <;> omega))) | (refine ob_eqb hj ?_; (first | rfl | first | omega | (simp only [hj, std]; split <;> omega) | (simp (disch := omega) only [hj, std, cmpI, cmpB, satB, add64, sub64, ite0, pl0, pl2, pl3, sb0, if_true, if_false, eq_self, sC_len] <;> omega) | (simp (disch := omega) [hj, std, cmpI, cmpB, satB, add64, sub64, ite0, pl0, pl2, pl3, sb0, if_true, if_false, eq_self, sC_len] <;> omega))) | ((refine ob_ok hj ?_; simp only [hj, std, ite0]; exact ok_sC (by omega))) | ((refine r1b ?_; exact fewS_iff.2 <| few_of (by omega) fun n hn => i3 n (by omega))) | ((refine r1b ?_; cases e : fewS l; rfl; have := (fewS_iff.1 e).2 _ (sAt_mem l i i1 (by omega)); omega)) | ((simp (disch := omega) only [hj, std, add64]; first | omega | (refine ⟨by omega, by omega, fun n hn => ?_⟩; by_cases e : (n : Int) < i; exact i3 n e; obtain rfl : n = i.toNat := (by omega); omega))))
end Go.Proofs.Ytkkieddebnhpcaa.A

/- Sets of words: the reference's sets, put by put. -/
set_option linter.unusedSimpArgs false
set_option linter.unusedVariables false
set_option maxRecDepth 100000
set_option maxHeartbeats 4000000
namespace Go.Proofs.Ytkkieddebnhpcaa.A
open Go
def bookPt (x_hasS : List ByteArray → ByteArray → Bool) (x_ltS : ByteArray → ByteArray → Bool) (x_strsOf : List C → List ByteArray) : Book := fun f xs => match f, xs with
  | 21, [.v false [.sl _ cs], .v false [.val (.string w)]] => some (ret1 (.st (vB (x_hasS (x_strsOf cs) w))))
  | 56, [.v false [.val (.string a)], .v false [.val (.string b)]] => some (ret1 (.st (vB (x_ltS a b))))
  | _, _ => none
theorem c_Has19 {l : List ByteArray} {w : ByteArray} (hl : nS l < 4611686018427387904) : pc 21 [.v false [(C.sl (nS l) (sC l))], .v false [vS w]] (ret1 (.st (vB (hasS (strsOf (sC l)) w)))) := by rw [strsOf_sC]; exact ⟨enters Try.func21 (by kernel_rfl) (by kernel_rfl), pc_Has19 l w hl⟩
theorem pc_Put (l : List ByteArray) (w : ByteArray) (hl : nS l ≤ 1000000) (hs : Set' l) (hsz : ∀ s ∈ l, s.size ≤ 100) (hw : w.size ≤ 100) : PC Try.prog T 49 [.v false [(C.sl (nS l) (sC l))], .v false [vS w]] (ret1 (.st ((C.sl (nS (putS l w)) (sC (putS l w)))))) [] := by
  refine pc_of tok Try.func49 rfl (by rfl) ?_
  obtain ⟨j, hj⟩ : ∃ j : J, j = std Try.prog T := ⟨_, rfl⟩
  have hm : Try.prog.follows .mixedOrders = true := by kernel_rfl
  generalize y_hasS : @hasS = x_hasS at *
  generalize y_ltS : @ltS = x_ltS at *
  generalize y_strsOf : @strsOf = x_strsOf at *
  generalize y_sC : @sC = x_sC at *
  generalize y_nS : @nS = x_nS at *
  (repeat' first | (refine aw_retz hj [(4, .fz)] (by cbv) ?_) | (with_reducible refine tr_cut (fun h => ?_) (fun h => ?_) <;> (try simp (disch := omega) only [hj, std, cmpI, cmpB, satB, Bool.not_eq_true, Bool.not_eq_false, decide_eq_true_eq, decide_eq_false_iff_not, beq_iff_eq, bne_iff_ne, bne_eq_false_iff_eq, beq_eq_false_iff_ne, ne_eq, reduceCtorEq, not_true_eq_false, not_false_eq_true, pl0, if_true, cmpS_eq, cmpS_neq, Bool.not_eq_eq_eq_not, Bool.not_true, Bool.not_false, Bool.not_eq_true', add64, sub64] at h) <;> (try (exfalso; omega))) | (with_reducible refine tr_alt (fun h => ?_) ?_ <;> (try (exfalso; omega))) | (with_reducible refine tr_ob ?_ ?_) | (with_reducible refine tr_done ?_) | (refine aw_tr hj tok (bookPt x_hasS x_ltS x_strsOf) (by cbv) ?_) | (refine aw_seq fun K hK => ?_) | (refine aw_tr1 hj tok (bookPt x_hasS x_ltS x_strsOf) (by cbv) ?_) | (refine aw_condj (by cbv) (fun h => ?_) (fun h => ?_) <;> (try simp (disch := omega) only [hj, std, cmpI, cmpB, satB, Bool.not_eq_true, Bool.not_eq_false, decide_eq_true_eq, decide_eq_false_iff_not, beq_iff_eq, bne_iff_ne, bne_eq_false_iff_eq, beq_eq_false_iff_ne, ne_eq, reduceCtorEq, not_true_eq_false, not_false_eq_true, pl0, if_true, cmpS_eq, cmpS_neq, Bool.not_eq_eq_eq_not, Bool.not_true, Bool.not_false, Bool.not_eq_true', add64, sub64] at h) <;> (try (exfalso; omega))) | (refine aw_skip ?_) | (refine aw_block ?_) | (refine aw_exit ?_) | (refine aw_ret ⟨.inr rfl, ret_okj hj (by cbv) ?_ ?_⟩) | (refine aw_ret ?_) | (with_reducible refine th_n ?_) | (with_reducible refine th_r ?_) | (with_reducible refine th_x ?_) | (with_reducible refine blk_n ?_) | (with_reducible refine blk_r ?_) | (with_reducible refine blk_x ?_) | (with_reducible refine blk_y rfl ?_) | (refine ⟨.inr rfl, ret_okj hj (by cbv) ?_ ?_⟩) | (refine ⟨.inl rfl, ret_okj hj (by cbv) ?_ ?_⟩) | ((with_reducible refine ⟨(_, _, _, _, _, _, _), by cbv, ?_, ?_⟩)) | ((with_reducible refine ⟨(_, _, _, _, _, _), by cbv, ?_, ?_⟩)) | ((with_reducible refine ⟨(_, _, _, _, _), by cbv, ?_, ?_⟩)) | ((with_reducible refine ⟨(_, _, _, _), by cbv, ?_, ?_⟩)) | ((with_reducible refine ⟨(_, _, _), by cbv, ?_, ?_⟩)) | ((with_reducible refine ⟨(_, _), by cbv, ?_, ?_⟩)) | ((with_reducible refine ⟨_, by cbv, ?_, ?_⟩)) | (with_reducible apply_assumption -symm -exfalso only [*]))
  all_goals ((try subst y_hasS); (try subst y_ltS); (try subst y_strsOf); (try subst y_sC); (try subst y_nS))
  all_goals (try have q := ‹hasS (strsOf (sC l)) w = true›)
  all_goals (try rw [strsOf_sC, hasS_iff] at q)
  all_goals (try (repeat' first | with_reducible exact obl0 | with_reducible refine obl1 ?_ ?_))
  all_goals (try first | with_reducible exact True.intro | (refine ob_pc hj ?_; (try rw [hj]); first | exact c_Has19 (by omega)) | (refine ob_le hj ?_; (first | omega | (simp only [hj, std]; split <;> omega) | (simp (disch := omega) only [hj, std, cmpI, cmpB, satB, add64, sub64, ite0, pl0, pl2, pl3, sb0, if_true, if_false, eq_self] <;> omega) | (simp (disch := omega) [hj, std, cmpI, cmpB, satB, add64, sub64, ite0, pl0, pl2, pl3, sb0, if_true, if_false, eq_self] <;> omega))) | (refine ob_lei hj ?_; (first | omega | (simp only [hj, std]; split <;> omega) | (simp (disch := omega) only [hj, std, cmpI, cmpB, satB, add64, sub64, ite0, pl0, pl2, pl3, sb0, if_true, if_false, eq_self] <;> omega) | (simp (disch := omega) [hj, std, cmpI, cmpB, satB, add64, sub64, ite0, pl0, pl2, pl3, sb0, if_true, if_false, eq_self] <;> omega))) | (refine ob_inb hj ?_; (first | omega | (simp only [hj, std]; split <;> omega) | (simp (disch := omega) only [hj, std, cmpI, cmpB, satB, add64, sub64, ite0, pl0, pl2, pl3, sb0, if_true, if_false, eq_self] <;> omega) | (simp (disch := omega) [hj, std, cmpI, cmpB, satB, add64, sub64, ite0, pl0, pl2, pl3, sb0, if_true, if_false, eq_self] <;> omega))) | (refine ob_pos hj ?_; (first | omega | (simp only [hj, std]; split <;> omega) | (simp (disch := omega) only [hj, std, cmpI, cmpB, satB, add64, sub64, ite0, pl0, pl2, pl3, sb0, if_true, if_false, eq_self] <;> omega) | (simp (disch := omega) [hj, std, cmpI, cmpB, satB, add64, sub64, ite0, pl0, pl2, pl3, sb0, if_true, if_false, eq_self] <;> omega))) | (refine ob_ne0 hj ?_; (first | omega | (simp only [hj, std]; split <;> omega) | (simp (disch := omega) only [hj, std, cmpI, cmpB, satB, add64, sub64, ite0, pl0, pl2, pl3, sb0, if_true, if_false, eq_self] <;> omega) | (simp (disch := omega) [hj, std, cmpI, cmpB, satB, add64, sub64, ite0, pl0, pl2, pl3, sb0, if_true, if_false, eq_self] <;> omega))) | (refine ob_eqb hj ?_; (first | rfl | first | omega | (simp only [hj, std]; split <;> omega) | (simp (disch := omega) only [hj, std, cmpI, cmpB, satB, add64, sub64, ite0, pl0, pl2, pl3, sb0, if_true, if_false, eq_self] <;> omega) | (simp (disch := omega) [hj, std, cmpI, cmpB, satB, add64, sub64, ite0, pl0, pl2, pl3, sb0, if_true, if_false, eq_self] <;> omega))) | ((refine r1sl ?_ ?_ <;> rw [putS_in hs q])))
  all_goals (try have q := ‹hasS (strsOf (sC l)) w = false›)
  all_goals (try rw [strsOf_sC, hasS_not] at q)
  have e0 : j.ofNat (nS l) = (nS l : Int) := by rw [hj]; rfl
  have nl := nS_eq l
  refine aw_lpj hj [(0, .keep), (1, .keep), (5, .keep)] [] (fun (k : Int) => stOf 40 [(0, .one (.c ((C.sl (nS l) (sC l))))), (1, .one (.c (vS w))), (5, .one (.c (vI k)))] []) (fun (k : Int) => k.toNat) (fun (k : Int) => 0 ≤ k ∧ k ≤ nS l ∧ ∀ n : Nat, k ≤ n → n < nS l → ltS w (sAt l n) = true) ((j.ofNat (nS l))) (by generalize @hasS = x_hasS; generalize @ltS = x_ltS; generalize @strsOf = x_strsOf; generalize @sC = x_sC; generalize @nS = x_nS; cbv) ?_ (fun k hI => ?_)
  · exact ⟨by omega, by omega, fun n h h2 => by omega⟩
  obtain ⟨k1, k2, k3⟩ := hI
  generalize y_hasS : @hasS = x_hasS at *
  generalize y_ltS : @ltS = x_ltS at *
  generalize y_strsOf : @strsOf = x_strsOf at *
  generalize y_sC : @sC = x_sC at *
  generalize y_nS : @nS = x_nS at *
  (repeat' first | (refine aw_retz hj [(4, .fz)] (by cbv) ?_) | (with_reducible refine tr_cut (fun h => ?_) (fun h => ?_) <;> (try simp (disch := omega) only [hj, std, cmpI, cmpB, satB, Bool.not_eq_true, Bool.not_eq_false, decide_eq_true_eq, decide_eq_false_iff_not, beq_iff_eq, bne_iff_ne, bne_eq_false_iff_eq, beq_eq_false_iff_ne, ne_eq, reduceCtorEq, not_true_eq_false, not_false_eq_true, pl0, if_true, cmpS_eq, cmpS_neq, Bool.not_eq_eq_eq_not, Bool.not_true, Bool.not_false, Bool.not_eq_true', gs_sC, add64, sub64] at h) <;> (try (exfalso; omega))) | (with_reducible refine tr_alt (fun h => ?_) ?_ <;> (try (exfalso; omega))) | (with_reducible refine tr_ob ?_ ?_) | (with_reducible refine tr_done ?_) | (refine aw_tr hj tok (bookPt x_hasS x_ltS x_strsOf) (by cbv) ?_) | (refine aw_seq fun K hK => ?_) | (refine aw_tr1 hj tok (bookPt x_hasS x_ltS x_strsOf) (by cbv) ?_) | (refine aw_condj (by cbv) (fun h => ?_) (fun h => ?_) <;> (try simp (disch := omega) only [hj, std, cmpI, cmpB, satB, Bool.not_eq_true, Bool.not_eq_false, decide_eq_true_eq, decide_eq_false_iff_not, beq_iff_eq, bne_iff_ne, bne_eq_false_iff_eq, beq_eq_false_iff_ne, ne_eq, reduceCtorEq, not_true_eq_false, not_false_eq_true, pl0, if_true, cmpS_eq, cmpS_neq, Bool.not_eq_eq_eq_not, Bool.not_true, Bool.not_false, Bool.not_eq_true', gs_sC, add64, sub64] at h) <;> (try (exfalso; omega))) | (refine aw_skip ?_) | (refine aw_block ?_) | (refine aw_exit ?_) | (refine aw_ret ⟨.inr rfl, ret_okj hj (by cbv) ?_ ?_⟩) | (refine aw_ret ?_) | (with_reducible refine th_n ?_) | (with_reducible refine th_r ?_) | (with_reducible refine th_x ?_) | (with_reducible refine blk_n ?_) | (with_reducible refine blk_r ?_) | (with_reducible refine blk_x ?_) | (with_reducible refine blk_y rfl ?_) | (refine ⟨.inr rfl, ret_okj hj (by cbv) ?_ ?_⟩) | (refine ⟨.inl rfl, ret_okj hj (by cbv) ?_ ?_⟩) | ((with_reducible refine ⟨(_, _, _, _, _, _, _), by cbv, ?_, ?_⟩)) | ((with_reducible refine ⟨(_, _, _, _, _, _), by cbv, ?_, ?_⟩)) | ((with_reducible refine ⟨(_, _, _, _, _), by cbv, ?_, ?_⟩)) | ((with_reducible refine ⟨(_, _, _, _), by cbv, ?_, ?_⟩)) | ((with_reducible refine ⟨(_, _, _), by cbv, ?_, ?_⟩)) | ((with_reducible refine ⟨(_, _), by cbv, ?_, ?_⟩)) | ((with_reducible refine ⟨_, by cbv, ?_, ?_⟩)) | (with_reducible apply_assumption -symm -exfalso only [*]))
  all_goals ((try subst y_hasS); (try subst y_ltS); (try subst y_strsOf); (try subst y_sC); (try subst y_nS))
  all_goals (try have e9 : arithI .sub .i64 k 1 = k - 1 := sub64 (by omega) (by omega))
  all_goals (try have p := ‹ltS w _ = true›)
  all_goals (try have p := ‹ltS w _ = false›)
  all_goals (try rw [gs_sC] at p)
  all_goals (have hp : (k.toNat = 0 ∨ ltS w (sAt l (k.toNat - 1)) = false) → l.take k.toNat ++ [w] ++ l.drop k.toNat = putS l w := fun h1 => putS_at hs q (by omega) h1 fun n h2 h3 => k3 n (by omega) (by omega))
  all_goals (try have e8 := hp (.inl (by omega)))
  all_goals (try have e8 := hp (.inr (by rw [show k.toNat - 1 = (k - 1).toNat by omega]; exact p)))
  all_goals (have et : List.take (nS l) l = l := by rw [nl]; exact List.take_length)
  all_goals (try (repeat' first | with_reducible exact obl0 | with_reducible refine obl1 ?_ ?_))
  all_goals (try first | with_reducible exact True.intro | (refine ob_pc hj ?_; (try rw [hj]); first | exact c_LessF hw (small_at hsz _ (by simp only [hj, std, e9]; omega) (by simp only [hj, std, e9]; omega))) | (refine ob_le hj ?_; (first | omega | (simp only [hj, std]; split <;> omega) | (simp (disch := omega) only [hj, std, cmpI, cmpB, satB, add64, sub64, ite0, pl0, pl2, pl3, sb0, if_true, if_false, eq_self, sC_len] <;> omega) | (simp (disch := omega) [hj, std, cmpI, cmpB, satB, add64, sub64, ite0, pl0, pl2, pl3, sb0, if_true, if_false, eq_self, sC_len] <;> omega))) | (refine ob_lei hj ?_; (first | omega | (simp only [hj, std]; split <;> omega) | (simp (disch := omega) only [hj, std, cmpI, cmpB, satB, add64, sub64, ite0, pl0, pl2, pl3, sb0, if_true, if_false, eq_self, sC_len] <;> omega) | (simp (disch := omega) [hj, std, cmpI, cmpB, satB, add64, sub64, ite0, pl0, pl2, pl3, sb0, if_true, if_false, eq_self, sC_len] <;> omega))) | (refine ob_inb hj ?_; (first | omega | (simp only [hj, std]; split <;> omega) | (simp (disch := omega) only [hj, std, cmpI, cmpB, satB, add64, sub64, ite0, pl0, pl2, pl3, sb0, if_true, if_false, eq_self, sC_len] <;> omega) | (simp (disch := omega) [hj, std, cmpI, cmpB, satB, add64, sub64, ite0, pl0, pl2, pl3, sb0, if_true, if_false, eq_self, sC_len] <;> omega))) | (refine ob_pos hj ?_; (first | omega | (simp only [hj, std]; split <;> omega) | (simp (disch := omega) only [hj, std, cmpI, cmpB, satB, add64, sub64, ite0, pl0, pl2, pl3, sb0, if_true, if_false, eq_self, sC_len] <;> omega) | (simp (disch := omega) [hj, std, cmpI, cmpB, satB, add64, sub64, ite0, pl0, pl2, pl3, sb0, if_true, if_false, eq_self, sC_len] <;> omega))) | (refine ob_ne0 hj ?_; (first | omega | (simp only [hj, std]; split <;> omega) | (simp (disch := omega) only [hj, std, cmpI, cmpB, satB, add64, sub64, ite0, pl0, pl2, pl3, sb0, if_true, if_false, eq_self, sC_len] <;> omega) | (simp (disch := omega) [hj, std, cmpI, cmpB, satB, add64, sub64, ite0, pl0, pl2, pl3, sb0, if_true, if_false, eq_self, sC_len] <;> omega))) | (refine ob_eqb hj ?_; (first | rfl | first | omega | (simp only [hj, std]; split <;> omega) | (simp (disch := omega) only [hj, std, cmpI, cmpB, satB, add64, sub64, ite0, pl0, pl2, pl3, sb0, if_true, if_false, eq_self, sC_len] <;> omega) | (simp (disch := omega) [hj, std, cmpI, cmpB, satB, add64, sub64, ite0, pl0, pl2, pl3, sb0, if_true, if_false, eq_self, sC_len] <;> omega))) | ((refine ob_ok hj ?_; simp only [hj, std, ite0, e9]; exact ok_sC (by omega))) | ((refine ob_le hj ?_; simp only [hj, std, ite0, e9, sC_len]; omega)) | ((refine ob_inb hj ?_; simp only [hj, std, ite0, e9]; omega)) | ((simp (disch := omega) only [hj, std, sub64]; first | omega | (refine ⟨by omega, by omega, fun n hn hn2 => ?_⟩; by_cases e : k ≤ n; exact k3 n e hn2; obtain rfl : n = (k - 1).toNat := (by omega); exact p))) | ((refine ob_le hj ?_; simp only [hj, std, ite0, pl0, pl2, sb0, if_true, sC_ext, sC_len, nS_eq, List.length_take, List.length_drop]; omega)) | ((refine ob_le hj ?_; simp only [hj, std, ite0, pl0, pl2, sb0, if_true, sC_ext, sC_len, nS_eq, List.length_take, List.length_drop]; split <;> omega)))
  all_goals (refine r1sl ?_ ?_ <;> rw [← e8])
  · simp only [nS_eq, hj, std, pl0, pl2, pl3, if_false, sb0, ite0, if_true, List.length_append, List.length_take, List.length_drop, List.length_singleton]; omega
  · simp only [hj, std, sC_ext, List.drop_zero, List.nil_append]; rw [et, ← sC_app, ← sC_app]; rfl
  · simp only [nS_eq, hj, std, pl0, pl2, pl3, if_false, sb0, ite0, if_true, List.length_append, List.length_take, List.length_drop, List.length_singleton]; omega
  · simp only [hj, std, sC_ext, List.drop_zero, List.nil_append]; rw [et, ← sC_app, ← sC_app]; rfl
end Go.Proofs.Ytkkieddebnhpcaa.A

/- Sets of words: the set of words. -/
set_option linter.unusedSimpArgs false
set_option linter.unusedVariables false
set_option maxRecDepth 100000
set_option maxHeartbeats 4000000
namespace Go.Proofs.Ytkkieddebnhpcaa.A
open Go
abbrev strT : TypeId := 9
theorem c_Put {l : List ByteArray} {w : ByteArray} {n : Nat} {cs : List C} (hn : n = nS l) (hc : cs = sC l) (hl : nS l ≤ 1000000) (hs : Set' l) (hsz : ∀ s ∈ l, s.size ≤ 100) (hw : w.size ≤ 100) : pc 49 [.v false [.sl n cs], .v false [vS w]] (ret1 (.st ((C.sl (nS (putS (strsOf cs) w)) (sC (putS (strsOf cs) w)))))) := by
  subst hn; subst hc
  rw [strsOf_sC]
  exact ⟨enters Try.func49 (by kernel_rfl) (by kernel_rfl), pc_Put l w hl hs hsz hw⟩
def bookQ (x_sC : List ByteArray → List C) (x_nS : List ByteArray → Nat) (x_strsOf : List C → List ByteArray) (x_cutS : ByteArray → Int → ByteArray) (x_srtS : List ByteArray → List ByteArray) (x_cpS : List ByteArray → List ByteArray) : Book := fun f xs => match f, xs with
  | 49, [.v false [.sl _ cs], .v false [.val (.string w)]] => some (ret1 (.st ((C.sl (x_nS (putS (x_strsOf cs) w)) (x_sC (putS (x_strsOf cs) w))))))
  | 52, [.v false [.val (.string w)], .v false [.val (.int .i64 k)]] => some (ret1 (.st (vS (x_cutS w k))))
  | 53, [.v false [.sl n cs]] => some (ret1 (.own strT n cs))
  | 54, [.v false [.sl n cs]] => some (⟨false, []⟩, [.loose [.own strT n (x_sC (x_srtS (x_strsOf cs)))]])
  | 55, [.v false [.sl n cs]] => some (ret1 (.own strT (x_nS (x_cpS (x_strsOf cs))) (x_sC (x_cpS (x_strsOf cs)))), [.loose [.own strT (x_nS (x_cpS (x_strsOf cs))) (x_sC (x_cpS (x_strsOf cs)))]])
  | _, _ => none
theorem set_mem_size {l m : List ByteArray} {b : Nat} (h : ∀ s ∈ l, s.size ≤ b) (hm : ∀ s ∈ m, s ∈ l) : ∀ s ∈ setS m, s.size ≤ b := fun s hs => h s (hm s (mem_setS.1 hs))
theorem set_nS {l : List ByteArray} : nS (setS l) ≤ l.length := by rw [nS_eq]; exact set_few
theorem pc_Of19 (l : List ByteArray) (hl : nS l ≤ 1000000) (hsz : ∀ s ∈ l, s.size ≤ 100) : PC Try.prog T 13 [.v false [(C.sl (nS l) (sC l))]] (ret1 (.st ((C.sl (nS (setS l)) (sC (setS l)))))) [] := by
  refine pc_of tok Try.func13 rfl (by rfl) ?_
  obtain ⟨j, hj⟩ : ∃ j : J, j = std Try.prog T := ⟨_, rfl⟩
  have hm : Try.prog.follows .mixedOrders = true := by kernel_rfl
  generalize y_sC : @sC = x_sC at *
  generalize y_nS : @nS = x_nS at *
  generalize y_strsOf : @strsOf = x_strsOf at *
  generalize y_cutS : @cutS = x_cutS at *
  generalize y_srtS : @srtS = x_srtS at *
  generalize y_cpS : @cpS = x_cpS at *
  generalize y_setS : @setS = x_setS at *
  (repeat' first | (with_reducible refine tr_cut (fun h => ?_) (fun h => ?_) <;> (try simp (disch := omega) only [hj, std, cmpI, cmpB, satB, Bool.not_eq_true, Bool.not_eq_false, decide_eq_true_eq, decide_eq_false_iff_not, beq_iff_eq, bne_iff_ne, bne_eq_false_iff_eq, beq_eq_false_iff_ne, ne_eq, reduceCtorEq, not_true_eq_false, not_false_eq_true, pl0, if_true, cmpS_eq, cmpS_neq, Bool.not_eq_eq_eq_not, Bool.not_true, Bool.not_false, Bool.not_eq_true', add64, sub64] at h) <;> (try (exfalso; omega))) | (with_reducible refine tr_alt (fun h => ?_) ?_ <;> (try (exfalso; omega))) | (with_reducible refine tr_ob ?_ ?_) | (with_reducible refine tr_done ?_) | (refine aw_tr hj tok (bookQ x_sC x_nS x_strsOf x_cutS x_srtS x_cpS) (by cbv) ?_) | (refine aw_seq fun K hK => ?_) | (refine aw_tr1 hj tok (bookQ x_sC x_nS x_strsOf x_cutS x_srtS x_cpS) (by cbv) ?_) | (refine aw_condj (by cbv) (fun h => ?_) (fun h => ?_) <;> (try simp (disch := omega) only [hj, std, cmpI, cmpB, satB, Bool.not_eq_true, Bool.not_eq_false, decide_eq_true_eq, decide_eq_false_iff_not, beq_iff_eq, bne_iff_ne, bne_eq_false_iff_eq, beq_eq_false_iff_ne, ne_eq, reduceCtorEq, not_true_eq_false, not_false_eq_true, pl0, if_true, cmpS_eq, cmpS_neq, Bool.not_eq_eq_eq_not, Bool.not_true, Bool.not_false, Bool.not_eq_true', add64, sub64] at h) <;> (try (exfalso; omega))) | (refine aw_skip ?_) | (refine aw_block ?_) | (refine aw_exit ?_) | (refine aw_ret ⟨.inr rfl, ret_okj hj (by cbv) ?_ ?_⟩) | (refine aw_ret ?_) | (with_reducible refine th_n ?_) | (with_reducible refine th_r ?_) | (with_reducible refine th_x ?_) | (with_reducible refine blk_n ?_) | (with_reducible refine blk_r ?_) | (with_reducible refine blk_x ?_) | (with_reducible refine blk_y rfl ?_) | (refine ⟨.inr rfl, ret_okj hj (by cbv) ?_ ?_⟩) | (refine ⟨.inl rfl, ret_okj hj (by cbv) ?_ ?_⟩) | ((with_reducible refine ⟨(_, _, _, _, _, _, _), by cbv, ?_, ?_⟩)) | ((with_reducible refine ⟨(_, _, _, _, _, _), by cbv, ?_, ?_⟩)) | ((with_reducible refine ⟨(_, _, _, _, _), by cbv, ?_, ?_⟩)) | ((with_reducible refine ⟨(_, _, _, _), by cbv, ?_, ?_⟩)) | ((with_reducible refine ⟨(_, _, _), by cbv, ?_, ?_⟩)) | ((with_reducible refine ⟨(_, _), by cbv, ?_, ?_⟩)) | ((with_reducible refine ⟨_, by cbv, ?_, ?_⟩)) | (with_reducible apply_assumption -symm -exfalso only [*]))
  all_goals ((try subst y_sC); (try subst y_nS); (try subst y_strsOf); (try subst y_cutS); (try subst y_srtS); (try subst y_cpS); (try subst y_setS))
  refine aw_lpj hj [(0, .keep), (3, .fz), (4, .keep)] [] (fun (⟨i, n, cs⟩ : Int × Nat × (List C)) => stOf 18 [(0, .one (.c ((C.sl (nS l) (sC l))))), (3, .one (.c (.sl n cs))), (4, .one (.c (vI i)))] []) (fun (⟨i, n, cs⟩ : Int × Nat × (List C)) => nS l - i.toNat) (fun (⟨i, n, cs⟩ : Int × Nat × (List C)) => 0 ≤ i ∧ i ≤ nS l ∧ n = nS (setS (l.take i.toNat)) ∧ cs = sC (setS (l.take i.toNat))) ((0, 0, [])) (by generalize @sC = x_sC; generalize @nS = x_nS; generalize @strsOf = x_strsOf; generalize @cutS = x_cutS; generalize @srtS = x_srtS; generalize @cpS = x_cpS; generalize @setS = x_setS; cbv) ?_ (fun ⟨i, n, cs⟩ hI => ?_)
  · exact ⟨by omega, by omega, rfl, rfl⟩
  obtain ⟨i1, i2, i3, i4⟩ := hI
  have nl := nS_eq l
  have hk : i < nS l → putS (strsOf cs) (gs (cellAt (sC l) i.toNat)) = setS (l.take (i + 1).toNat) := fun h => by rw [i4, strsOf_sC, gs_sC, take_step l i i1 h, setS_snoc]
  have hp : i < nS l → pc 49 [.v false [.sl n cs], .v false [vS (gs (cellAt (sC l) i.toNat))]] (ret1 (.st ((C.sl (nS (putS (strsOf cs) (gs (cellAt (sC l) i.toNat)))) (sC (putS (strsOf cs) (gs (cellAt (sC l) i.toNat)))))))) := fun h =>
    c_Put i3 i4 (Nat.le_trans set_nS (by rw [List.length_take]; omega)) (setS_set _) (set_mem_size hsz fun s => List.mem_of_mem_take) (by rw [gs_sC]; exact hsz _ (sAt_mem l i i1 h))
  generalize y_sC : @sC = x_sC at *
  generalize y_nS : @nS = x_nS at *
  generalize y_strsOf : @strsOf = x_strsOf at *
  generalize y_cutS : @cutS = x_cutS at *
  generalize y_srtS : @srtS = x_srtS at *
  generalize y_cpS : @cpS = x_cpS at *
  generalize y_setS : @setS = x_setS at *
  (repeat' first | (refine aw_retz hj [(2, .fz)] (by cbv) ?_) | (with_reducible refine tr_cut (fun h => ?_) (fun h => ?_) <;> (try simp (disch := omega) only [hj, std, cmpI, cmpB, satB, Bool.not_eq_true, Bool.not_eq_false, decide_eq_true_eq, decide_eq_false_iff_not, beq_iff_eq, bne_iff_ne, bne_eq_false_iff_eq, beq_eq_false_iff_ne, ne_eq, reduceCtorEq, not_true_eq_false, not_false_eq_true, pl0, if_true, cmpS_eq, cmpS_neq, Bool.not_eq_eq_eq_not, Bool.not_true, Bool.not_false, Bool.not_eq_true', add64, sub64] at h) <;> (try (exfalso; omega))) | (with_reducible refine tr_alt (fun h => ?_) ?_ <;> (try (exfalso; omega))) | (with_reducible refine tr_ob ?_ ?_) | (with_reducible refine tr_done ?_) | (refine aw_tr hj tok (bookQ x_sC x_nS x_strsOf x_cutS x_srtS x_cpS) (by cbv) ?_) | (refine aw_seq fun K hK => ?_) | (refine aw_tr1 hj tok (bookQ x_sC x_nS x_strsOf x_cutS x_srtS x_cpS) (by cbv) ?_) | (refine aw_condj (by cbv) (fun h => ?_) (fun h => ?_) <;> (try simp (disch := omega) only [hj, std, cmpI, cmpB, satB, Bool.not_eq_true, Bool.not_eq_false, decide_eq_true_eq, decide_eq_false_iff_not, beq_iff_eq, bne_iff_ne, bne_eq_false_iff_eq, beq_eq_false_iff_ne, ne_eq, reduceCtorEq, not_true_eq_false, not_false_eq_true, pl0, if_true, cmpS_eq, cmpS_neq, Bool.not_eq_eq_eq_not, Bool.not_true, Bool.not_false, Bool.not_eq_true', add64, sub64] at h) <;> (try (exfalso; omega))) | (refine aw_skip ?_) | (refine aw_block ?_) | (refine aw_exit ?_) | (refine aw_ret ⟨.inr rfl, ret_okj hj (by cbv) ?_ ?_⟩) | (refine aw_ret ?_) | (with_reducible refine th_n ?_) | (with_reducible refine th_r ?_) | (with_reducible refine th_x ?_) | (with_reducible refine blk_n ?_) | (with_reducible refine blk_r ?_) | (with_reducible refine blk_x ?_) | (with_reducible refine blk_y rfl ?_) | (refine ⟨.inr rfl, ret_okj hj (by cbv) ?_ ?_⟩) | (refine ⟨.inl rfl, ret_okj hj (by cbv) ?_ ?_⟩) | ((with_reducible refine ⟨(_, _, _, _, _, _, _), by cbv, ?_, ?_⟩)) | ((with_reducible refine ⟨(_, _, _, _, _, _), by cbv, ?_, ?_⟩)) | ((with_reducible refine ⟨(_, _, _, _, _), by cbv, ?_, ?_⟩)) | ((with_reducible refine ⟨(_, _, _, _), by cbv, ?_, ?_⟩)) | ((with_reducible refine ⟨(_, _, _), by cbv, ?_, ?_⟩)) | ((with_reducible refine ⟨(_, _), by cbv, ?_, ?_⟩)) | ((with_reducible refine ⟨_, by cbv, ?_, ?_⟩)) | (with_reducible apply_assumption -symm -exfalso only [*]))
  all_goals ((try subst y_sC); (try subst y_nS); (try subst y_strsOf); (try subst y_cutS); (try subst y_srtS); (try subst y_cpS); (try subst y_setS))
  all_goals (try (repeat' first | with_reducible exact obl0 | with_reducible refine obl1 ?_ ?_))
  all_goals (try first | with_reducible exact True.intro | (refine ob_pc hj ?_; (try rw [hj]); first | exact hp (by omega)) | (refine ob_le hj ?_; (first | omega | (simp only [hj, std]; split <;> omega) | (simp (disch := omega) only [hj, std, cmpI, cmpB, satB, add64, sub64, ite0, pl0, pl2, pl3, sb0, if_true, if_false, eq_self, sC_len] <;> omega) | (simp (disch := omega) [hj, std, cmpI, cmpB, satB, add64, sub64, ite0, pl0, pl2, pl3, sb0, if_true, if_false, eq_self, sC_len] <;> omega))) | (refine ob_lei hj ?_; (first | omega | (simp only [hj, std]; split <;> omega) | (simp (disch := omega) only [hj, std, cmpI, cmpB, satB, add64, sub64, ite0, pl0, pl2, pl3, sb0, if_true, if_false, eq_self, sC_len] <;> omega) | (simp (disch := omega) [hj, std, cmpI, cmpB, satB, add64, sub64, ite0, pl0, pl2, pl3, sb0, if_true, if_false, eq_self, sC_len] <;> omega))) | (refine ob_inb hj ?_; (first | omega | (simp only [hj, std]; split <;> omega) | (simp (disch := omega) only [hj, std, cmpI, cmpB, satB, add64, sub64, ite0, pl0, pl2, pl3, sb0, if_true, if_false, eq_self, sC_len] <;> omega) | (simp (disch := omega) [hj, std, cmpI, cmpB, satB, add64, sub64, ite0, pl0, pl2, pl3, sb0, if_true, if_false, eq_self, sC_len] <;> omega))) | (refine ob_pos hj ?_; (first | omega | (simp only [hj, std]; split <;> omega) | (simp (disch := omega) only [hj, std, cmpI, cmpB, satB, add64, sub64, ite0, pl0, pl2, pl3, sb0, if_true, if_false, eq_self, sC_len] <;> omega) | (simp (disch := omega) [hj, std, cmpI, cmpB, satB, add64, sub64, ite0, pl0, pl2, pl3, sb0, if_true, if_false, eq_self, sC_len] <;> omega))) | (refine ob_ne0 hj ?_; (first | omega | (simp only [hj, std]; split <;> omega) | (simp (disch := omega) only [hj, std, cmpI, cmpB, satB, add64, sub64, ite0, pl0, pl2, pl3, sb0, if_true, if_false, eq_self, sC_len] <;> omega) | (simp (disch := omega) [hj, std, cmpI, cmpB, satB, add64, sub64, ite0, pl0, pl2, pl3, sb0, if_true, if_false, eq_self, sC_len] <;> omega))) | (refine ob_eqb hj ?_; (first | rfl | first | omega | (simp only [hj, std]; split <;> omega) | (simp (disch := omega) only [hj, std, cmpI, cmpB, satB, add64, sub64, ite0, pl0, pl2, pl3, sb0, if_true, if_false, eq_self, sC_len] <;> omega) | (simp (disch := omega) [hj, std, cmpI, cmpB, satB, add64, sub64, ite0, pl0, pl2, pl3, sb0, if_true, if_false, eq_self, sC_len] <;> omega))) | ((refine ob_ok hj ?_; simp only [hj, std, ite0]; exact ok_sC (by omega))) | ((simp (disch := omega) only [hj, std, add64]; first | omega | (rw [hk (by omega)]; exact ⟨by omega, by omega, rfl, rfl⟩))) | ((refine r1sl ?_ ?_ <;> first | (rw [i3, take_fin l i (by omega)]) | (rw [i4, take_fin l i (by omega)]))))
theorem c_Of19 {l : List ByteArray} {n : Nat} {cs : List C} (hn : n = nS l) (hc : cs = sC l) (hl : nS l ≤ 1000000) (hsz : ∀ s ∈ l, s.size ≤ 100) : pc 13 [.v false [.sl n cs]] (ret1 (.st ((C.sl (nS (setS (strsOf cs))) (sC (setS (strsOf cs))))))) := by
  subst hn; subst hc
  rw [strsOf_sC]
  exact ⟨enters Try.func13 (by kernel_rfl) (by kernel_rfl), pc_Of19 l hl hsz⟩
theorem r1own {l : List ByteArray} {n : Nat} {cs : List C} (h1 : n = nS l) (h2 : cs = sC l) : ret1 (.own strT (nS l) (sC l)) = ⟨false, [(false, [.own strT n cs])]⟩ := by rw [h1, h2]; rfl
theorem pc_Clone (l : List ByteArray) (hl : nS l ≤ 1000000) : PC Try.prog T 53 [.v false [(C.sl (nS l) (sC l))]] (ret1 (.own strT (nS l) (sC l))) [] := by
  refine pc_of tok Try.func53 rfl (by rfl) ?_
  obtain ⟨j, hj⟩ : ∃ j : J, j = std Try.prog T := ⟨_, rfl⟩
  have hm : Try.prog.follows .mixedOrders = true := by kernel_rfl
  generalize y_sC : @sC = x_sC at *
  generalize y_nS : @nS = x_nS at *
  generalize y_strsOf : @strsOf = x_strsOf at *
  generalize y_cutS : @cutS = x_cutS at *
  generalize y_srtS : @srtS = x_srtS at *
  generalize y_cpS : @cpS = x_cpS at *
  (repeat' first | (refine aw_ret ⟨.inr rfl, ret_oknil hj strT (by cbv) ?_ ?_⟩) | (with_reducible refine tr_cut (fun h => ?_) (fun h => ?_) <;> (try simp (disch := omega) only [hj, std, cmpI, cmpB, satB, Bool.not_eq_true, Bool.not_eq_false, decide_eq_true_eq, decide_eq_false_iff_not, beq_iff_eq, bne_iff_ne, bne_eq_false_iff_eq, beq_eq_false_iff_ne, ne_eq, reduceCtorEq, not_true_eq_false, not_false_eq_true, pl0, if_true, cmpS_eq, cmpS_neq, Bool.not_eq_eq_eq_not, Bool.not_true, Bool.not_false, Bool.not_eq_true', add64, sub64] at h) <;> (try (exfalso; omega))) | (with_reducible refine tr_alt (fun h => ?_) ?_ <;> (try (exfalso; omega))) | (with_reducible refine tr_ob ?_ ?_) | (with_reducible refine tr_done ?_) | (refine aw_tr hj tok (bookQ x_sC x_nS x_strsOf x_cutS x_srtS x_cpS) (by cbv) ?_) | (refine aw_seq fun K hK => ?_) | (refine aw_tr1 hj tok (bookQ x_sC x_nS x_strsOf x_cutS x_srtS x_cpS) (by cbv) ?_) | (refine aw_condj (by cbv) (fun h => ?_) (fun h => ?_) <;> (try simp (disch := omega) only [hj, std, cmpI, cmpB, satB, Bool.not_eq_true, Bool.not_eq_false, decide_eq_true_eq, decide_eq_false_iff_not, beq_iff_eq, bne_iff_ne, bne_eq_false_iff_eq, beq_eq_false_iff_ne, ne_eq, reduceCtorEq, not_true_eq_false, not_false_eq_true, pl0, if_true, cmpS_eq, cmpS_neq, Bool.not_eq_eq_eq_not, Bool.not_true, Bool.not_false, Bool.not_eq_true', add64, sub64] at h) <;> (try (exfalso; omega))) | (refine aw_skip ?_) | (refine aw_block ?_) | (refine aw_exit ?_) | (refine aw_ret ⟨.inr rfl, ret_okj hj (by cbv) ?_ ?_⟩) | (refine aw_ret ?_) | (with_reducible refine th_n ?_) | (with_reducible refine th_r ?_) | (with_reducible refine th_x ?_) | (with_reducible refine blk_n ?_) | (with_reducible refine blk_r ?_) | (with_reducible refine blk_x ?_) | (with_reducible refine blk_y rfl ?_) | (refine ⟨.inr rfl, ret_okj hj (by cbv) ?_ ?_⟩) | (refine ⟨.inl rfl, ret_okj hj (by cbv) ?_ ?_⟩) | ((with_reducible refine ⟨(_, _, _, _, _, _, _), by cbv, ?_, ?_⟩)) | ((with_reducible refine ⟨(_, _, _, _, _, _), by cbv, ?_, ?_⟩)) | ((with_reducible refine ⟨(_, _, _, _, _), by cbv, ?_, ?_⟩)) | ((with_reducible refine ⟨(_, _, _, _), by cbv, ?_, ?_⟩)) | ((with_reducible refine ⟨(_, _, _), by cbv, ?_, ?_⟩)) | ((with_reducible refine ⟨(_, _), by cbv, ?_, ?_⟩)) | ((with_reducible refine ⟨_, by cbv, ?_, ?_⟩)) | (with_reducible apply_assumption -symm -exfalso only [*]))
  all_goals ((try subst y_sC); (try subst y_nS); (try subst y_strsOf); (try subst y_cutS); (try subst y_srtS); (try subst y_cpS))
  all_goals (have nl := nS_eq l)
  all_goals (try (repeat' first | with_reducible exact obl0 | with_reducible refine obl1 ?_ ?_))
  all_goals (try first | with_reducible exact True.intro | (refine ob_le hj ?_; (first | omega | (simp only [hj, std]; split <;> omega) | (simp (disch := omega) only [hj, std, cmpI, cmpB, satB, add64, sub64, ite0, pl0, pl2, pl3, sb0, if_true, if_false, eq_self, sC_len] <;> omega) | (simp (disch := omega) [hj, std, cmpI, cmpB, satB, add64, sub64, ite0, pl0, pl2, pl3, sb0, if_true, if_false, eq_self, sC_len] <;> omega))) | (refine ob_lei hj ?_; (first | omega | (simp only [hj, std]; split <;> omega) | (simp (disch := omega) only [hj, std, cmpI, cmpB, satB, add64, sub64, ite0, pl0, pl2, pl3, sb0, if_true, if_false, eq_self, sC_len] <;> omega) | (simp (disch := omega) [hj, std, cmpI, cmpB, satB, add64, sub64, ite0, pl0, pl2, pl3, sb0, if_true, if_false, eq_self, sC_len] <;> omega))) | (refine ob_inb hj ?_; (first | omega | (simp only [hj, std]; split <;> omega) | (simp (disch := omega) only [hj, std, cmpI, cmpB, satB, add64, sub64, ite0, pl0, pl2, pl3, sb0, if_true, if_false, eq_self, sC_len] <;> omega) | (simp (disch := omega) [hj, std, cmpI, cmpB, satB, add64, sub64, ite0, pl0, pl2, pl3, sb0, if_true, if_false, eq_self, sC_len] <;> omega))) | (refine ob_pos hj ?_; (first | omega | (simp only [hj, std]; split <;> omega) | (simp (disch := omega) only [hj, std, cmpI, cmpB, satB, add64, sub64, ite0, pl0, pl2, pl3, sb0, if_true, if_false, eq_self, sC_len] <;> omega) | (simp (disch := omega) [hj, std, cmpI, cmpB, satB, add64, sub64, ite0, pl0, pl2, pl3, sb0, if_true, if_false, eq_self, sC_len] <;> omega))) | (refine ob_ne0 hj ?_; (first | omega | (simp only [hj, std]; split <;> omega) | (simp (disch := omega) only [hj, std, cmpI, cmpB, satB, add64, sub64, ite0, pl0, pl2, pl3, sb0, if_true, if_false, eq_self, sC_len] <;> omega) | (simp (disch := omega) [hj, std, cmpI, cmpB, satB, add64, sub64, ite0, pl0, pl2, pl3, sb0, if_true, if_false, eq_self, sC_len] <;> omega))) | (refine ob_eqb hj ?_; (first | rfl | first | omega | (simp only [hj, std]; split <;> omega) | (simp (disch := omega) only [hj, std, cmpI, cmpB, satB, add64, sub64, ite0, pl0, pl2, pl3, sb0, if_true, if_false, eq_self, sC_len] <;> omega) | (simp (disch := omega) [hj, std, cmpI, cmpB, satB, add64, sub64, ite0, pl0, pl2, pl3, sb0, if_true, if_false, eq_self, sC_len] <;> omega))) | ((refine r1own ?_ ?_ <;> simp [hj, std, pl0])) | ((obtain rfl : l = [] := List.length_eq_zero_iff.1 (by omega); rfl)))
theorem ob_pco {P : Program} {T : TT} {j : J} (hj : j = std P T) {f : FuncId} {e : TypeId} {n : Nat} {cells : List C} {gs : List FuncId} {ret : Bool} {n' : Nat} {cells' : List C} (h : Enters P f) (k : PCO P T f e n cells gs ret n' cells') : j.pco f e n cells gs ret n' cells' := by rw [hj]; exact ⟨h, k⟩
theorem c_Clone {n : Nat} {cs : List C} {l : List ByteArray} (hn : n = nS l) (hc : cs = sC l) (hl : nS l ≤ 1000000) : pc 53 [.v false [.sl n cs]] (ret1 (.own strT n cs)) := by
  subst hn; subst hc
  exact ⟨enters Try.func53 (by kernel_rfl) (by kernel_rfl), pc_Clone l hl⟩
theorem e_Sort : Enters Try.prog 54 := enters Try.func54 (by kernel_rfl) (by kernel_rfl)
theorem e_Compact : Enters Try.prog 55 := enters Try.func55 (by kernel_rfl) (by kernel_rfl)
theorem pc_OfP (l : List ByteArray) (hl : nS l ≤ 1000000) : PC Try.prog T 18 [.v false [(C.sl (nS l) (sC l))]] (ret1 (.own strT (nS (setS l)) (sC (setS l)))) [] := by
  refine pc_of tok Try.func18 rfl (by rfl) ?_
  obtain ⟨j, hj⟩ : ∃ j : J, j = std Try.prog T := ⟨_, rfl⟩
  have hm : Try.prog.follows .mixedOrders = true := by kernel_rfl
  generalize y_sC : @sC = x_sC at *
  generalize y_nS : @nS = x_nS at *
  generalize y_strsOf : @strsOf = x_strsOf at *
  generalize y_cutS : @cutS = x_cutS at *
  generalize y_srtS : @srtS = x_srtS at *
  generalize y_cpS : @cpS = x_cpS at *
  generalize y_setS : @setS = x_setS at *
  (repeat' first | (with_reducible refine tr_cut (fun h => ?_) (fun h => ?_) <;> (try simp (disch := omega) only [hj, std, cmpI, cmpB, satB, Bool.not_eq_true, Bool.not_eq_false, decide_eq_true_eq, decide_eq_false_iff_not, beq_iff_eq, bne_iff_ne, bne_eq_false_iff_eq, beq_eq_false_iff_ne, ne_eq, reduceCtorEq, not_true_eq_false, not_false_eq_true, pl0, if_true, cmpS_eq, cmpS_neq, Bool.not_eq_eq_eq_not, Bool.not_true, Bool.not_false, Bool.not_eq_true', add64, sub64] at h) <;> (try (exfalso; omega))) | (with_reducible refine tr_alt (fun h => ?_) ?_ <;> (try (exfalso; omega))) | (with_reducible refine tr_ob ?_ ?_) | (with_reducible refine tr_done ?_) | (refine aw_tr hj tok (bookQ x_sC x_nS x_strsOf x_cutS x_srtS x_cpS) (by cbv) ?_) | (refine aw_seq fun K hK => ?_) | (refine aw_tr1 hj tok (bookQ x_sC x_nS x_strsOf x_cutS x_srtS x_cpS) (by cbv) ?_) | (refine aw_condj (by cbv) (fun h => ?_) (fun h => ?_) <;> (try simp (disch := omega) only [hj, std, cmpI, cmpB, satB, Bool.not_eq_true, Bool.not_eq_false, decide_eq_true_eq, decide_eq_false_iff_not, beq_iff_eq, bne_iff_ne, bne_eq_false_iff_eq, beq_eq_false_iff_ne, ne_eq, reduceCtorEq, not_true_eq_false, not_false_eq_true, pl0, if_true, cmpS_eq, cmpS_neq, Bool.not_eq_eq_eq_not, Bool.not_true, Bool.not_false, Bool.not_eq_true', add64, sub64] at h) <;> (try (exfalso; omega))) | (refine aw_skip ?_) | (refine aw_block ?_) | (refine aw_exit ?_) | (refine aw_ret ⟨.inr rfl, ret_okj hj (by cbv) ?_ ?_⟩) | (refine aw_ret ?_) | (with_reducible refine th_n ?_) | (with_reducible refine th_r ?_) | (with_reducible refine th_x ?_) | (with_reducible refine blk_n ?_) | (with_reducible refine blk_r ?_) | (with_reducible refine blk_x ?_) | (with_reducible refine blk_y rfl ?_) | (refine ⟨.inr rfl, ret_okj hj (by cbv) ?_ ?_⟩) | (refine ⟨.inl rfl, ret_okj hj (by cbv) ?_ ?_⟩) | ((with_reducible refine ⟨(_, _, _, _, _, _, _), by cbv, ?_, ?_⟩)) | ((with_reducible refine ⟨(_, _, _, _, _, _), by cbv, ?_, ?_⟩)) | ((with_reducible refine ⟨(_, _, _, _, _), by cbv, ?_, ?_⟩)) | ((with_reducible refine ⟨(_, _, _, _), by cbv, ?_, ?_⟩)) | ((with_reducible refine ⟨(_, _, _), by cbv, ?_, ?_⟩)) | ((with_reducible refine ⟨(_, _), by cbv, ?_, ?_⟩)) | ((with_reducible refine ⟨_, by cbv, ?_, ?_⟩)) | (with_reducible apply_assumption -symm -exfalso only [*]))
  all_goals ((try subst y_sC); (try subst y_nS); (try subst y_strsOf); (try subst y_cutS); (try subst y_srtS); (try subst y_cpS); (try subst y_setS))
  all_goals (try (repeat' first | with_reducible exact obl0 | with_reducible refine obl1 ?_ ?_))
  all_goals (try first | with_reducible exact True.intro | (refine ob_pc hj ?_; (try rw [hj]); first | exact c_Clone rfl rfl hl) | (refine ob_le hj ?_; (first | omega | (simp only [hj, std]; split <;> omega) | (simp (disch := omega) only [hj, std, cmpI, cmpB, satB, add64, sub64, ite0, pl0, pl2, pl3, sb0, if_true, if_false, eq_self] <;> omega) | (simp (disch := omega) [hj, std, cmpI, cmpB, satB, add64, sub64, ite0, pl0, pl2, pl3, sb0, if_true, if_false, eq_self] <;> omega))) | (refine ob_lei hj ?_; (first | omega | (simp only [hj, std]; split <;> omega) | (simp (disch := omega) only [hj, std, cmpI, cmpB, satB, add64, sub64, ite0, pl0, pl2, pl3, sb0, if_true, if_false, eq_self] <;> omega) | (simp (disch := omega) [hj, std, cmpI, cmpB, satB, add64, sub64, ite0, pl0, pl2, pl3, sb0, if_true, if_false, eq_self] <;> omega))) | (refine ob_inb hj ?_; (first | omega | (simp only [hj, std]; split <;> omega) | (simp (disch := omega) only [hj, std, cmpI, cmpB, satB, add64, sub64, ite0, pl0, pl2, pl3, sb0, if_true, if_false, eq_self] <;> omega) | (simp (disch := omega) [hj, std, cmpI, cmpB, satB, add64, sub64, ite0, pl0, pl2, pl3, sb0, if_true, if_false, eq_self] <;> omega))) | (refine ob_pos hj ?_; (first | omega | (simp only [hj, std]; split <;> omega) | (simp (disch := omega) only [hj, std, cmpI, cmpB, satB, add64, sub64, ite0, pl0, pl2, pl3, sb0, if_true, if_false, eq_self] <;> omega) | (simp (disch := omega) [hj, std, cmpI, cmpB, satB, add64, sub64, ite0, pl0, pl2, pl3, sb0, if_true, if_false, eq_self] <;> omega))) | (refine ob_ne0 hj ?_; (first | omega | (simp only [hj, std]; split <;> omega) | (simp (disch := omega) only [hj, std, cmpI, cmpB, satB, add64, sub64, ite0, pl0, pl2, pl3, sb0, if_true, if_false, eq_self] <;> omega) | (simp (disch := omega) [hj, std, cmpI, cmpB, satB, add64, sub64, ite0, pl0, pl2, pl3, sb0, if_true, if_false, eq_self] <;> omega))) | (refine ob_eqb hj ?_; (first | rfl | first | omega | (simp only [hj, std]; split <;> omega) | (simp (disch := omega) only [hj, std, cmpI, cmpB, satB, add64, sub64, ite0, pl0, pl2, pl3, sb0, if_true, if_false, eq_self] <;> omega) | (simp (disch := omega) [hj, std, cmpI, cmpB, satB, add64, sub64, ite0, pl0, pl2, pl3, sb0, if_true, if_false, eq_self] <;> omega))) | ((refine ob_vals hj ?_; exact sC_vals _)) | ((refine ob_pco hj e_Sort ?_; rw [strsOf_sC]; exact pco_sort l _ (by omega))) | ((refine ob_pco hj e_Compact ?_; rw [strsOf_sC, strsOf_sC]; exact pco_compact _ _ (by omega))) | ((refine r1own ?_ ?_ <;> rw [strsOf_sC, strsOf_sC, cp_srt])))
end Go.Proofs.Ytkkieddebnhpcaa.A

/- Sets of words: products of the reference; cuts. -/
set_option linter.unusedSimpArgs false
set_option linter.unusedVariables false
set_option maxRecDepth 100000
set_option maxHeartbeats 4000000
namespace Go.Proofs.Ytkkieddebnhpcaa.A
open Go
theorem c_Cut18 {w : ByteArray} {k : Int} (hw : w.size ≤ 100000) : pc 52 [.v false [vS w], .v false [vI k]] (ret1 (.st (vS (cutS w k)))) := ⟨enters Try.func52 (by kernel_rfl) (by kernel_rfl), pc_Cut18 w k (by omega)⟩
theorem pc_Cat19 (k : Int) (a b : List ByteArray) (ha : nS a ≤ 300) (hb : nS b ≤ 300) (hsa : ∀ s ∈ a, s.size ≤ 50) (hsb : ∀ s ∈ b, s.size ≤ 50) : PC Try.prog T 16 [.v false [vI k], .v false [(C.sl (nS a) (sC a))], .v false [(C.sl (nS b) (sC b))]] (ret1 (.st ((C.sl (nS (setS (prodS k a b))) (sC (setS (prodS k a b))))))) [] := by
  refine pc_of tok Try.func16 rfl (by rfl) ?_
  obtain ⟨j, hj⟩ : ∃ j : J, j = std Try.prog T := ⟨_, rfl⟩
  have hm : Try.prog.follows .mixedOrders = true := by kernel_rfl
  have na := nS_eq a
  have nb := nS_eq b
  generalize y_sC : @sC = x_sC at *
  generalize y_nS : @nS = x_nS at *
  generalize y_strsOf : @strsOf = x_strsOf at *
  generalize y_cutS : @cutS = x_cutS at *
  generalize y_srtS : @srtS = x_srtS at *
  generalize y_cpS : @cpS = x_cpS at *
  generalize y_setS : @setS = x_setS at *
  generalize y_prodS : @prodS = x_prodS at *
  (repeat' first | (with_reducible refine tr_cut (fun h => ?_) (fun h => ?_) <;> (try simp (disch := omega) only [hj, std, cmpI, cmpB, satB, Bool.not_eq_true, Bool.not_eq_false, decide_eq_true_eq, decide_eq_false_iff_not, beq_iff_eq, bne_iff_ne, bne_eq_false_iff_eq, beq_eq_false_iff_ne, ne_eq, reduceCtorEq, not_true_eq_false, not_false_eq_true, pl0, if_true, cmpS_eq, cmpS_neq, Bool.not_eq_eq_eq_not, Bool.not_true, Bool.not_false, Bool.not_eq_true', add64, sub64] at h) <;> (try (exfalso; omega))) | (with_reducible refine tr_alt (fun h => ?_) ?_ <;> (try (exfalso; omega))) | (with_reducible refine tr_ob ?_ ?_) | (with_reducible refine tr_done ?_) | (refine aw_tr hj tok (bookQ x_sC x_nS x_strsOf x_cutS x_srtS x_cpS) (by cbv) ?_) | (refine aw_seq fun K hK => ?_) | (refine aw_tr1 hj tok (bookQ x_sC x_nS x_strsOf x_cutS x_srtS x_cpS) (by cbv) ?_) | (refine aw_condj (by cbv) (fun h => ?_) (fun h => ?_) <;> (try simp (disch := omega) only [hj, std, cmpI, cmpB, satB, Bool.not_eq_true, Bool.not_eq_false, decide_eq_true_eq, decide_eq_false_iff_not, beq_iff_eq, bne_iff_ne, bne_eq_false_iff_eq, beq_eq_false_iff_ne, ne_eq, reduceCtorEq, not_true_eq_false, not_false_eq_true, pl0, if_true, cmpS_eq, cmpS_neq, Bool.not_eq_eq_eq_not, Bool.not_true, Bool.not_false, Bool.not_eq_true', add64, sub64] at h) <;> (try (exfalso; omega))) | (refine aw_skip ?_) | (refine aw_block ?_) | (refine aw_exit ?_) | (refine aw_ret ⟨.inr rfl, ret_okj hj (by cbv) ?_ ?_⟩) | (refine aw_ret ?_) | (with_reducible refine th_n ?_) | (with_reducible refine th_r ?_) | (with_reducible refine th_x ?_) | (with_reducible refine blk_n ?_) | (with_reducible refine blk_r ?_) | (with_reducible refine blk_x ?_) | (with_reducible refine blk_y rfl ?_) | (refine ⟨.inr rfl, ret_okj hj (by cbv) ?_ ?_⟩) | (refine ⟨.inl rfl, ret_okj hj (by cbv) ?_ ?_⟩) | ((with_reducible refine ⟨(_, _, _, _, _, _, _), by cbv, ?_, ?_⟩)) | ((with_reducible refine ⟨(_, _, _, _, _, _), by cbv, ?_, ?_⟩)) | ((with_reducible refine ⟨(_, _, _, _, _), by cbv, ?_, ?_⟩)) | ((with_reducible refine ⟨(_, _, _, _), by cbv, ?_, ?_⟩)) | ((with_reducible refine ⟨(_, _, _), by cbv, ?_, ?_⟩)) | ((with_reducible refine ⟨(_, _), by cbv, ?_, ?_⟩)) | ((with_reducible refine ⟨_, by cbv, ?_, ?_⟩)) | (with_reducible apply_assumption -symm -exfalso only [*]))
  all_goals ((try subst y_sC); (try subst y_nS); (try subst y_strsOf); (try subst y_cutS); (try subst y_srtS); (try subst y_cpS); (try subst y_setS); (try subst y_prodS))
  refine aw_lpj hj [(0, .keep), (1, .keep), (2, .keep), (7, .fz), (8, .keep)] [] (fun (⟨i, n, cs⟩ : Int × Nat × (List C)) => stOf 36 [(0, .one (.c (vI k))), (1, .one (.c ((C.sl (nS a) (sC a))))), (2, .one (.c ((C.sl (nS b) (sC b))))), (7, .one (.c (.sl n cs))), (8, .one (.c (vI i)))] []) (fun (⟨i, n, cs⟩ : Int × Nat × (List C)) => nS a - i.toNat) (fun (⟨i, n, cs⟩ : Int × Nat × (List C)) => 0 ≤ i ∧ i ≤ nS a ∧ n = nS (setS (prodS k (a.take i.toNat) b)) ∧ cs = sC (setS (prodS k (a.take i.toNat) b))) ((0, 0, [])) (by generalize @sC = x_sC; generalize @nS = x_nS; generalize @strsOf = x_strsOf; generalize @cutS = x_cutS; generalize @srtS = x_srtS; generalize @cpS = x_cpS; generalize @setS = x_setS; generalize @prodS = x_prodS; cbv) ?_ (fun ⟨i, n, cs⟩ hI => ?_)
  · exact ⟨by omega, by omega, rfl, rfl⟩
  obtain ⟨i1, i2, i3, i4⟩ := hI
  generalize y_sC : @sC = x_sC at *
  generalize y_nS : @nS = x_nS at *
  generalize y_strsOf : @strsOf = x_strsOf at *
  generalize y_cutS : @cutS = x_cutS at *
  generalize y_srtS : @srtS = x_srtS at *
  generalize y_cpS : @cpS = x_cpS at *
  generalize y_setS : @setS = x_setS at *
  generalize y_prodS : @prodS = x_prodS at *
  (repeat' first | (refine aw_retz hj [(6, .fz)] (by cbv) ?_) | (with_reducible refine tr_cut (fun h => ?_) (fun h => ?_) <;> (try simp (disch := omega) only [hj, std, cmpI, cmpB, satB, Bool.not_eq_true, Bool.not_eq_false, decide_eq_true_eq, decide_eq_false_iff_not, beq_iff_eq, bne_iff_ne, bne_eq_false_iff_eq, beq_eq_false_iff_ne, ne_eq, reduceCtorEq, not_true_eq_false, not_false_eq_true, pl0, if_true, cmpS_eq, cmpS_neq, Bool.not_eq_eq_eq_not, Bool.not_true, Bool.not_false, Bool.not_eq_true', add64, sub64] at h) <;> (try (exfalso; omega))) | (with_reducible refine tr_alt (fun h => ?_) ?_ <;> (try (exfalso; omega))) | (with_reducible refine tr_ob ?_ ?_) | (with_reducible refine tr_done ?_) | (refine aw_tr hj tok (bookQ x_sC x_nS x_strsOf x_cutS x_srtS x_cpS) (by cbv) ?_) | (refine aw_seq fun K hK => ?_) | (refine aw_tr1 hj tok (bookQ x_sC x_nS x_strsOf x_cutS x_srtS x_cpS) (by cbv) ?_) | (refine aw_condj (by cbv) (fun h => ?_) (fun h => ?_) <;> (try simp (disch := omega) only [hj, std, cmpI, cmpB, satB, Bool.not_eq_true, Bool.not_eq_false, decide_eq_true_eq, decide_eq_false_iff_not, beq_iff_eq, bne_iff_ne, bne_eq_false_iff_eq, beq_eq_false_iff_ne, ne_eq, reduceCtorEq, not_true_eq_false, not_false_eq_true, pl0, if_true, cmpS_eq, cmpS_neq, Bool.not_eq_eq_eq_not, Bool.not_true, Bool.not_false, Bool.not_eq_true', add64, sub64] at h) <;> (try (exfalso; omega))) | (refine aw_skip ?_) | (refine aw_block ?_) | (refine aw_exit ?_) | (refine aw_ret ⟨.inr rfl, ret_okj hj (by cbv) ?_ ?_⟩) | (refine aw_ret ?_) | (with_reducible refine th_n ?_) | (with_reducible refine th_r ?_) | (with_reducible refine th_x ?_) | (with_reducible refine blk_n ?_) | (with_reducible refine blk_r ?_) | (with_reducible refine blk_x ?_) | (with_reducible refine blk_y rfl ?_) | (refine ⟨.inr rfl, ret_okj hj (by cbv) ?_ ?_⟩) | (refine ⟨.inl rfl, ret_okj hj (by cbv) ?_ ?_⟩) | ((with_reducible refine ⟨(_, _, _, _, _, _, _), by cbv, ?_, ?_⟩)) | ((with_reducible refine ⟨(_, _, _, _, _, _), by cbv, ?_, ?_⟩)) | ((with_reducible refine ⟨(_, _, _, _, _), by cbv, ?_, ?_⟩)) | ((with_reducible refine ⟨(_, _, _, _), by cbv, ?_, ?_⟩)) | ((with_reducible refine ⟨(_, _, _), by cbv, ?_, ?_⟩)) | ((with_reducible refine ⟨(_, _), by cbv, ?_, ?_⟩)) | ((with_reducible refine ⟨_, by cbv, ?_, ?_⟩)) | (with_reducible apply_assumption -symm -exfalso only [*]))
  all_goals ((try subst y_sC); (try subst y_nS); (try subst y_strsOf); (try subst y_cutS); (try subst y_srtS); (try subst y_cpS); (try subst y_setS); (try subst y_prodS))
  all_goals (try (repeat' first | with_reducible exact obl0 | with_reducible refine obl1 ?_ ?_))
  all_goals (try first | with_reducible exact True.intro | (refine ob_le hj ?_; (first | omega | (simp only [hj, std]; split <;> omega) | (simp (disch := omega) only [hj, std, cmpI, cmpB, satB, add64, sub64, ite0, pl0, pl2, pl3, sb0, if_true, if_false, eq_self] <;> omega) | (simp (disch := omega) [hj, std, cmpI, cmpB, satB, add64, sub64, ite0, pl0, pl2, pl3, sb0, if_true, if_false, eq_self] <;> omega))) | (refine ob_lei hj ?_; (first | omega | (simp only [hj, std]; split <;> omega) | (simp (disch := omega) only [hj, std, cmpI, cmpB, satB, add64, sub64, ite0, pl0, pl2, pl3, sb0, if_true, if_false, eq_self] <;> omega) | (simp (disch := omega) [hj, std, cmpI, cmpB, satB, add64, sub64, ite0, pl0, pl2, pl3, sb0, if_true, if_false, eq_self] <;> omega))) | (refine ob_inb hj ?_; (first | omega | (simp only [hj, std]; split <;> omega) | (simp (disch := omega) only [hj, std, cmpI, cmpB, satB, add64, sub64, ite0, pl0, pl2, pl3, sb0, if_true, if_false, eq_self] <;> omega) | (simp (disch := omega) [hj, std, cmpI, cmpB, satB, add64, sub64, ite0, pl0, pl2, pl3, sb0, if_true, if_false, eq_self] <;> omega))) | (refine ob_pos hj ?_; (first | omega | (simp only [hj, std]; split <;> omega) | (simp (disch := omega) only [hj, std, cmpI, cmpB, satB, add64, sub64, ite0, pl0, pl2, pl3, sb0, if_true, if_false, eq_self] <;> omega) | (simp (disch := omega) [hj, std, cmpI, cmpB, satB, add64, sub64, ite0, pl0, pl2, pl3, sb0, if_true, if_false, eq_self] <;> omega))) | (refine ob_ne0 hj ?_; (first | omega | (simp only [hj, std]; split <;> omega) | (simp (disch := omega) only [hj, std, cmpI, cmpB, satB, add64, sub64, ite0, pl0, pl2, pl3, sb0, if_true, if_false, eq_self] <;> omega) | (simp (disch := omega) [hj, std, cmpI, cmpB, satB, add64, sub64, ite0, pl0, pl2, pl3, sb0, if_true, if_false, eq_self] <;> omega))) | (refine ob_eqb hj ?_; (first | rfl | first | omega | (simp only [hj, std]; split <;> omega) | (simp (disch := omega) only [hj, std, cmpI, cmpB, satB, add64, sub64, ite0, pl0, pl2, pl3, sb0, if_true, if_false, eq_self] <;> omega) | (simp (disch := omega) [hj, std, cmpI, cmpB, satB, add64, sub64, ite0, pl0, pl2, pl3, sb0, if_true, if_false, eq_self] <;> omega))) | ((refine r1sl ?_ ?_ <;> first | (rw [i3, take_fin a i (by omega)]) | (rw [i4, take_fin a i (by omega)]))))
  have hia : i < (nS a : Int) := by assumption
  refine aw_lpj hj [(0, .keep), (1, .keep), (2, .keep), (7, .fz), (8, .keep), (9, .keep)] [] (fun (⟨m, n, cs⟩ : Int × Nat × (List C)) => stOf 36 [(0, .one (.c (vI k))), (1, .one (.c ((C.sl (nS a) (sC a))))), (2, .one (.c ((C.sl (nS b) (sC b))))), (7, .one (.c (.sl n cs))), (8, .one (.c (vI i))), (9, .one (.c (vI m)))] []) (fun (⟨m, n, cs⟩ : Int × Nat × (List C)) => nS b - m.toNat) (fun (⟨m, n, cs⟩ : Int × Nat × (List C)) => 0 ≤ m ∧ m ≤ nS b ∧ n = nS (setS (prodS k (a.take i.toNat) b ++ rowS k (sAt a i.toNat) (b.take m.toNat))) ∧ cs = sC (setS (prodS k (a.take i.toNat) b ++ rowS k (sAt a i.toNat) (b.take m.toNat)))) ((0, n, cs)) (by generalize @sC = x_sC; generalize @nS = x_nS; generalize @strsOf = x_strsOf; generalize @cutS = x_cutS; generalize @srtS = x_srtS; generalize @cpS = x_cpS; generalize @setS = x_setS; generalize @prodS = x_prodS; cbv) ?_ (fun ⟨m, n, cs⟩ hI => ?_)
  · refine ⟨by omega, by omega, ?_, ?_⟩
    · show n = _; rw [i3]; simp [rowS]
    · show cs = _; rw [i4]; simp [rowS]
  clear i3 i4
  obtain ⟨m1, m2, i3, i4⟩ := hI
  have hsz : m < nS b → ((sAt a i.toNat) ++ (sAt b m.toNat)).size ≤ 100 := fun h => by
    have h1 := hsa _ (sAt_mem a i i1 hia)
    have h2 := hsb _ (sAt_mem b m m1 h)
    rw [ByteArray.size_append]; omega
  have hk : m < nS b → putS (strsOf cs) (cutS (gs (cellAt (sC a) i.toNat) ++ gs (cellAt (sC b) m.toNat)) k) = setS (prodS k (a.take i.toNat) b ++ rowS k (sAt a i.toNat) (b.take (m + 1).toNat)) := fun h => by
    rw [i4, strsOf_sC, gs_sC, gs_sC, row_take m m1 h, ← List.append_assoc, setS_snoc]
  have hp : m < nS b → pc 49 [.v false [.sl n cs], .v false [vS (cutS (gs (cellAt (sC a) i.toNat) ++ gs (cellAt (sC b) m.toNat)) k)]] (ret1 (.st ((C.sl (nS (putS (strsOf cs) (cutS (gs (cellAt (sC a) i.toNat) ++ gs (cellAt (sC b) m.toNat)) k))) (sC (putS (strsOf cs) (cutS (gs (cellAt (sC a) i.toNat) ++ gs (cellAt (sC b) m.toNat)) k))))))) := fun h =>
    c_Put i3 i4 (Nat.le_trans set_nS (Nat.le_trans (prod_few (by omega) (by omega) (by rw [List.length_take]; omega)) (by omega))) (setS_set _)
      (fun s hs => by
        rcases List.mem_append.1 (mem_setS.1 hs) with h1 | h1
        · exact prod_size (fun s hs => hsa s (List.mem_of_mem_take hs)) hsb s h1
        · exact row_size (hsa _ (sAt_mem a i i1 hia)) (fun s hs => hsb s (List.mem_of_mem_take hs)) s h1)
      (by rw [gs_sC, gs_sC]; exact Nat.le_trans (cutS_size _ _) (hsz h))
  have hc : m < nS b → pc 52 [.v false [vS (gs (cellAt (sC a) i.toNat) ++ gs (cellAt (sC b) m.toNat))], .v false [vI k]] (ret1 (.st (vS (cutS (gs (cellAt (sC a) i.toNat) ++ gs (cellAt (sC b) m.toNat)) k)))) := fun h => by
    rw [gs_sC, gs_sC]; exact c_Cut18 (Nat.le_trans (hsz h) (by omega))
  generalize y_sC : @sC = x_sC at *
  generalize y_nS : @nS = x_nS at *
  generalize y_strsOf : @strsOf = x_strsOf at *
  generalize y_cutS : @cutS = x_cutS at *
  generalize y_srtS : @srtS = x_srtS at *
  generalize y_cpS : @cpS = x_cpS at *
  generalize y_setS : @setS = x_setS at *
  generalize y_prodS : @prodS = x_prodS at *
  (repeat' first | (with_reducible refine tr_cut (fun h => ?_) (fun h => ?_) <;> (try simp (disch := omega) only [hj, std, cmpI, cmpB, satB, Bool.not_eq_true, Bool.not_eq_false, decide_eq_true_eq, decide_eq_false_iff_not, beq_iff_eq, bne_iff_ne, bne_eq_false_iff_eq, beq_eq_false_iff_ne, ne_eq, reduceCtorEq, not_true_eq_false, not_false_eq_true, pl0, if_true, cmpS_eq, cmpS_neq, Bool.not_eq_eq_eq_not, Bool.not_true, Bool.not_false, Bool.not_eq_true', add64, sub64] at h) <;> (try (exfalso; omega))) | (with_reducible refine tr_alt (fun h => ?_) ?_ <;> (try (exfalso; omega))) | (with_reducible refine tr_ob ?_ ?_) | (with_reducible refine tr_done ?_) | (refine aw_dr1 (id := 8) hj tok hm (bookQ x_sC x_nS x_strsOf x_cutS x_srtS x_cpS) true [(0, false), (1, false), (2, false), (3, false), (4, false), (5, false), (6, false), (7, false), (8, false), (9, false), (10, true), (11, true), (12, true), (13, true)] (by kernel_rfl) (by cbv) ?_) | (refine aw_dr (id := 8) hj tok hm (bookQ x_sC x_nS x_strsOf x_cutS x_srtS x_cpS) true [(0, false), (1, false), (2, false), (3, false), (4, false), (5, false), (6, false), (7, false), (8, false), (9, false), (10, true), (11, true), (12, true), (13, true)] (by kernel_rfl) (by cbv) ?_) | (refine aw_tr hj tok (bookQ x_sC x_nS x_strsOf x_cutS x_srtS x_cpS) (by cbv) ?_) | (refine aw_seq fun K hK => ?_) | (refine aw_tr1 hj tok (bookQ x_sC x_nS x_strsOf x_cutS x_srtS x_cpS) (by cbv) ?_) | (refine aw_condj (by cbv) (fun h => ?_) (fun h => ?_) <;> (try simp (disch := omega) only [hj, std, cmpI, cmpB, satB, Bool.not_eq_true, Bool.not_eq_false, decide_eq_true_eq, decide_eq_false_iff_not, beq_iff_eq, bne_iff_ne, bne_eq_false_iff_eq, beq_eq_false_iff_ne, ne_eq, reduceCtorEq, not_true_eq_false, not_false_eq_true, pl0, if_true, cmpS_eq, cmpS_neq, Bool.not_eq_eq_eq_not, Bool.not_true, Bool.not_false, Bool.not_eq_true', add64, sub64] at h) <;> (try (exfalso; omega))) | (refine aw_skip ?_) | (refine aw_block ?_) | (refine aw_exit ?_) | (refine aw_ret ⟨.inr rfl, ret_okj hj (by cbv) ?_ ?_⟩) | (refine aw_ret ?_) | (with_reducible refine th_n ?_) | (with_reducible refine th_r ?_) | (with_reducible refine th_x ?_) | (with_reducible refine blk_n ?_) | (with_reducible refine blk_r ?_) | (with_reducible refine blk_x ?_) | (with_reducible refine blk_y rfl ?_) | (refine ⟨.inr rfl, ret_okj hj (by cbv) ?_ ?_⟩) | (refine ⟨.inl rfl, ret_okj hj (by cbv) ?_ ?_⟩) | ((with_reducible refine ⟨(_, _, _, _, _, _, _), by cbv, ?_, ?_⟩)) | ((with_reducible refine ⟨(_, _, _, _, _, _), by cbv, ?_, ?_⟩)) | ((with_reducible refine ⟨(_, _, _, _, _), by cbv, ?_, ?_⟩)) | ((with_reducible refine ⟨(_, _, _, _), by cbv, ?_, ?_⟩)) | ((with_reducible refine ⟨(_, _, _), by cbv, ?_, ?_⟩)) | ((with_reducible refine ⟨(_, _), by cbv, ?_, ?_⟩)) | ((with_reducible refine ⟨_, by cbv, ?_, ?_⟩)) | (with_reducible apply_assumption -symm -exfalso only [*]))
  all_goals ((try subst y_sC); (try subst y_nS); (try subst y_strsOf); (try subst y_cutS); (try subst y_srtS); (try subst y_cpS); (try subst y_setS); (try subst y_prodS))
  all_goals (try (repeat' first | with_reducible exact obl0 | with_reducible refine obl1 ?_ ?_))
  all_goals (try first | with_reducible exact True.intro | (refine ob_pc hj ?_; (try rw [hj]); first | exact hp (by omega) | exact hc (by omega)) | (refine ob_le hj ?_; (first | omega | (simp only [hj, std]; split <;> omega) | (simp (disch := omega) only [hj, std, cmpI, cmpB, satB, add64, sub64, ite0, pl0, pl2, pl3, sb0, if_true, if_false, eq_self, sC_len] <;> omega) | (simp (disch := omega) [hj, std, cmpI, cmpB, satB, add64, sub64, ite0, pl0, pl2, pl3, sb0, if_true, if_false, eq_self, sC_len] <;> omega))) | (refine ob_lei hj ?_; (first | omega | (simp only [hj, std]; split <;> omega) | (simp (disch := omega) only [hj, std, cmpI, cmpB, satB, add64, sub64, ite0, pl0, pl2, pl3, sb0, if_true, if_false, eq_self, sC_len] <;> omega) | (simp (disch := omega) [hj, std, cmpI, cmpB, satB, add64, sub64, ite0, pl0, pl2, pl3, sb0, if_true, if_false, eq_self, sC_len] <;> omega))) | (refine ob_inb hj ?_; (first | omega | (simp only [hj, std]; split <;> omega) | (simp (disch := omega) only [hj, std, cmpI, cmpB, satB, add64, sub64, ite0, pl0, pl2, pl3, sb0, if_true, if_false, eq_self, sC_len] <;> omega) | (simp (disch := omega) [hj, std, cmpI, cmpB, satB, add64, sub64, ite0, pl0, pl2, pl3, sb0, if_true, if_false, eq_self, sC_len] <;> omega))) | (refine ob_pos hj ?_; (first | omega | (simp only [hj, std]; split <;> omega) | (simp (disch := omega) only [hj, std, cmpI, cmpB, satB, add64, sub64, ite0, pl0, pl2, pl3, sb0, if_true, if_false, eq_self, sC_len] <;> omega) | (simp (disch := omega) [hj, std, cmpI, cmpB, satB, add64, sub64, ite0, pl0, pl2, pl3, sb0, if_true, if_false, eq_self, sC_len] <;> omega))) | (refine ob_ne0 hj ?_; (first | omega | (simp only [hj, std]; split <;> omega) | (simp (disch := omega) only [hj, std, cmpI, cmpB, satB, add64, sub64, ite0, pl0, pl2, pl3, sb0, if_true, if_false, eq_self, sC_len] <;> omega) | (simp (disch := omega) [hj, std, cmpI, cmpB, satB, add64, sub64, ite0, pl0, pl2, pl3, sb0, if_true, if_false, eq_self, sC_len] <;> omega))) | (refine ob_eqb hj ?_; (first | rfl | first | omega | (simp only [hj, std]; split <;> omega) | (simp (disch := omega) only [hj, std, cmpI, cmpB, satB, add64, sub64, ite0, pl0, pl2, pl3, sb0, if_true, if_false, eq_self, sC_len] <;> omega) | (simp (disch := omega) [hj, std, cmpI, cmpB, satB, add64, sub64, ite0, pl0, pl2, pl3, sb0, if_true, if_false, eq_self, sC_len] <;> omega))) | ((refine ob_ok hj ?_; simp only [hj, std, ite0]; exact ok_sC (by omega))) | ((refine ob_le hj ?_; simp only [hj, std, gs_sC]; have q := hsz (by omega); rw [ByteArray.size_append] at q; omega)) | ((simp (disch := omega) only [hj, std, add64]; first | omega | (rw [hk (by omega)]; exact ⟨by omega, by omega, rfl, rfl⟩) | (rw [prod_take i i1 hia, i3, i4, take_fin b m (by omega)]; exact ⟨by omega, by omega, rfl, rfl⟩))))
def bookW (x_cutS : ByteArray → Int → ByteArray) : Book := fun f xs => match f, xs with
  | 87, [.v false [.val (.string w)], .v false [.val (.int .i64 k)]] => some (ret1 (.st (vS (x_cutS w k))))
  | _, _ => none
theorem c_CutW {w : ByteArray} {k : Int} (hw : w.size ≤ 100000) : pc 87 [.v false [vS w], .v false [vI k]] (ret1 (.st (vS (cutS w k)))) := ⟨enters Try.func87 (by kernel_rfl) (by kernel_rfl), pc_Cut w k (by omega)⟩
theorem pc_CatW (k : Int) (x y : ByteArray) (hx : x.size ≤ 10000) (hy : y.size ≤ 10000) : PC Try.prog T 51 [.v false [vI k], .v false [.sl 2 [vS x, vS y]]] (ret1 (.st (vS (cutS (x ++ y) k)))) [] := by
  refine pc_of tok Try.func51 rfl (by rfl) ?_
  obtain ⟨j, hj⟩ : ∃ j : J, j = std Try.prog T := ⟨_, rfl⟩
  have hm : Try.prog.follows .mixedOrders = true := by kernel_rfl
  have hz : (x ++ y).size = x.size + y.size := ByteArray.size_append
  generalize y_cutS : @cutS = x_cutS at *
  (repeat' first | (with_reducible refine tr_cut (fun h => ?_) (fun h => ?_) <;> (try simp (disch := omega) only [hj, std, cmpI, cmpB, satB, Bool.not_eq_true, Bool.not_eq_false, decide_eq_true_eq, decide_eq_false_iff_not, beq_iff_eq, bne_iff_ne, bne_eq_false_iff_eq, beq_eq_false_iff_ne, ne_eq, reduceCtorEq, not_true_eq_false, not_false_eq_true, pl0, if_true, cmpS_eq, cmpS_neq, Bool.not_eq_eq_eq_not, Bool.not_true, Bool.not_false, Bool.not_eq_true', add64, sub64] at h) <;> (try (exfalso; omega))) | (with_reducible refine tr_alt (fun h => ?_) ?_ <;> (try (exfalso; omega))) | (with_reducible refine tr_ob ?_ ?_) | (with_reducible refine tr_done ?_) | (refine aw_tr hj tok (bookW x_cutS) (by cbv) ?_) | (refine aw_seq fun K hK => ?_) | (refine aw_tr1 hj tok (bookW x_cutS) (by cbv) ?_) | (refine aw_condj (by cbv) (fun h => ?_) (fun h => ?_) <;> (try simp (disch := omega) only [hj, std, cmpI, cmpB, satB, Bool.not_eq_true, Bool.not_eq_false, decide_eq_true_eq, decide_eq_false_iff_not, beq_iff_eq, bne_iff_ne, bne_eq_false_iff_eq, beq_eq_false_iff_ne, ne_eq, reduceCtorEq, not_true_eq_false, not_false_eq_true, pl0, if_true, cmpS_eq, cmpS_neq, Bool.not_eq_eq_eq_not, Bool.not_true, Bool.not_false, Bool.not_eq_true', add64, sub64] at h) <;> (try (exfalso; omega))) | (refine aw_skip ?_) | (refine aw_block ?_) | (refine aw_exit ?_) | (refine aw_ret ⟨.inr rfl, ret_okj hj (by cbv) ?_ ?_⟩) | (refine aw_ret ?_) | (with_reducible refine th_n ?_) | (with_reducible refine th_r ?_) | (with_reducible refine th_x ?_) | (with_reducible refine blk_n ?_) | (with_reducible refine blk_r ?_) | (with_reducible refine blk_x ?_) | (with_reducible refine blk_y rfl ?_) | (refine ⟨.inr rfl, ret_okj hj (by cbv) ?_ ?_⟩) | (refine ⟨.inl rfl, ret_okj hj (by cbv) ?_ ?_⟩) | ((with_reducible refine ⟨(_, _, _, _, _, _, _), by cbv, ?_, ?_⟩)) | ((with_reducible refine ⟨(_, _, _, _, _, _), by cbv, ?_, ?_⟩)) | ((with_reducible refine ⟨(_, _, _, _, _), by cbv, ?_, ?_⟩)) | ((with_reducible refine ⟨(_, _, _, _), by cbv, ?_, ?_⟩)) | ((with_reducible refine ⟨(_, _, _), by cbv, ?_, ?_⟩)) | ((with_reducible refine ⟨(_, _), by cbv, ?_, ?_⟩)) | ((with_reducible refine ⟨_, by cbv, ?_, ?_⟩)) | (with_reducible apply_assumption -symm -exfalso only [*]))
  all_goals ((try subst y_cutS))
  refine aw_lpj hj [(0, .keep), (5, .keep), (8, .keep), (9, .keep), (10, .keep)] [] (fun (⟨i, o⟩ : Int × ByteArray) => stOf 25 [(0, .one (.c (vI k))), (5, .one (.c (vS o))), (8, .one (.c (.sl 2 [vS x, vS y]))), (9, .one (.c (vI (j.ofNat 2)))), (10, .one (.c (vI i)))] []) (fun (⟨i, o⟩ : Int × ByteArray) => 2 - i.toNat) (fun (⟨i, o⟩ : Int × ByteArray) => (i = 0 ∧ o = ByteArray.empty) ∨ (i = 1 ∧ o = x) ∨ (i = 2 ∧ o = x ++ y)) ((0, ByteArray.empty)) (by generalize @cutS = x_cutS; cbv) ?_ (fun ⟨i, o⟩ hI => ?_)
  · exact .inl ⟨rfl, rfl⟩
  change (i = 0 ∧ o = ByteArray.empty) ∨ (i = 1 ∧ o = x) ∨ (i = 2 ∧ o = x ++ y) at hI
  have h0 : 0 ≤ i ∧ i ≤ 2 := by omega
  have hat : i < 2 → cellAt [vS x, vS y] i.toNat = vS (if i = 0 then x else y) := by
    intro h
    have : i = 0 ∨ i = 1 := by omega
    rcases this with rfl | rfl <;> rfl
  have hgz : i < 2 → (gs (cellAt [vS x, vS y] i.toNat)).size ≤ 10000 := by
    intro h; rw [hat h]; show (if i = 0 then x else y).size ≤ _; split <;> omega
  have hoz : o.size ≤ 20000 := by
    rcases hI with ⟨_, rfl⟩ | ⟨_, rfl⟩ | ⟨_, rfl⟩
    · exact Nat.zero_le _
    · omega
    · omega
  have hcut : (o.size : Int) ≥ k ∨ ¬ i < 2 → cutS (x ++ y) k = cutS o k := by
    intro h
    rcases hI with ⟨h1, rfl⟩ | ⟨h1, rfl⟩ | ⟨h1, rfl⟩
    · have h2 : k ≤ (ByteArray.empty.size : Nat) := by omega
      have := cutS_long (y := x ++ y) h2
      rwa [ByteArray.empty_append] at this
    · exact cutS_long (by omega)
    · rfl
  have hnext : i < 2 → ((i + 1 = 1 ∧ o ++ gs (cellAt [vS x, vS y] i.toNat) = x) ∨ (i + 1 = 2 ∧ o ++ gs (cellAt [vS x, vS y] i.toNat) = x ++ y)) := by
    intro h
    rcases hI with ⟨rfl, rfl⟩ | ⟨rfl, rfl⟩ | ⟨rfl, rfl⟩
    · exact .inl ⟨rfl, ByteArray.empty_append⟩
    · exact .inr ⟨rfl, rfl⟩
    · omega
  generalize y_cutS : @cutS = x_cutS at *
  (repeat' first | (with_reducible refine tr_cut (fun h => ?_) (fun h => ?_) <;> (try simp (disch := omega) only [hj, std, cmpI, cmpB, satB, Bool.not_eq_true, Bool.not_eq_false, decide_eq_true_eq, decide_eq_false_iff_not, beq_iff_eq, bne_iff_ne, bne_eq_false_iff_eq, beq_eq_false_iff_ne, ne_eq, reduceCtorEq, not_true_eq_false, not_false_eq_true, pl0, if_true, cmpS_eq, cmpS_neq, Bool.not_eq_eq_eq_not, Bool.not_true, Bool.not_false, Bool.not_eq_true', add64, sub64] at h) <;> (try (exfalso; omega))) | (with_reducible refine tr_alt (fun h => ?_) ?_ <;> (try (exfalso; omega))) | (with_reducible refine tr_ob ?_ ?_) | (with_reducible refine tr_done ?_) | (refine aw_tr hj tok (bookW x_cutS) (by cbv) ?_) | (refine aw_seq fun K hK => ?_) | (refine aw_tr1 hj tok (bookW x_cutS) (by cbv) ?_) | (refine aw_condj (by cbv) (fun h => ?_) (fun h => ?_) <;> (try simp (disch := omega) only [hj, std, cmpI, cmpB, satB, Bool.not_eq_true, Bool.not_eq_false, decide_eq_true_eq, decide_eq_false_iff_not, beq_iff_eq, bne_iff_ne, bne_eq_false_iff_eq, beq_eq_false_iff_ne, ne_eq, reduceCtorEq, not_true_eq_false, not_false_eq_true, pl0, if_true, cmpS_eq, cmpS_neq, Bool.not_eq_eq_eq_not, Bool.not_true, Bool.not_false, Bool.not_eq_true', add64, sub64] at h) <;> (try (exfalso; omega))) | (refine aw_skip ?_) | (refine aw_block ?_) | (refine aw_exit ?_) | (refine aw_ret ⟨.inr rfl, ret_okj hj (by cbv) ?_ ?_⟩) | (refine aw_ret ?_) | (with_reducible refine th_n ?_) | (with_reducible refine th_r ?_) | (with_reducible refine th_x ?_) | (with_reducible refine blk_n ?_) | (with_reducible refine blk_r ?_) | (with_reducible refine blk_x ?_) | (with_reducible refine blk_y rfl ?_) | (refine ⟨.inr rfl, ret_okj hj (by cbv) ?_ ?_⟩) | (refine ⟨.inl rfl, ret_okj hj (by cbv) ?_ ?_⟩) | ((with_reducible refine ⟨(_, _, _, _, _, _, _), by cbv, ?_, ?_⟩)) | ((with_reducible refine ⟨(_, _, _, _, _, _), by cbv, ?_, ?_⟩)) | ((with_reducible refine ⟨(_, _, _, _, _), by cbv, ?_, ?_⟩)) | ((with_reducible refine ⟨(_, _, _, _), by cbv, ?_, ?_⟩)) | ((with_reducible refine ⟨(_, _, _), by cbv, ?_, ?_⟩)) | ((with_reducible refine ⟨(_, _), by cbv, ?_, ?_⟩)) | ((with_reducible refine ⟨_, by cbv, ?_, ?_⟩)) | (with_reducible apply_assumption -symm -exfalso only [*]))
  all_goals ((try subst y_cutS))
  all_goals (try (repeat' first | with_reducible exact obl0 | with_reducible refine obl1 ?_ ?_))
  all_goals (try first | with_reducible exact True.intro | (refine ob_pc hj ?_; (try rw [hj]); first | exact c_CutW (by omega)) | (refine ob_le hj ?_; (first | omega | (simp only [hj, std]; split <;> omega) | (simp (disch := omega) only [hj, std, cmpI, cmpB, satB, add64, sub64, ite0, pl0, pl2, pl3, sb0, if_true, if_false, eq_self, List.length_cons, List.length_nil] <;> omega) | (simp (disch := omega) [hj, std, cmpI, cmpB, satB, add64, sub64, ite0, pl0, pl2, pl3, sb0, if_true, if_false, eq_self, List.length_cons, List.length_nil] <;> omega))) | (refine ob_lei hj ?_; (first | omega | (simp only [hj, std]; split <;> omega) | (simp (disch := omega) only [hj, std, cmpI, cmpB, satB, add64, sub64, ite0, pl0, pl2, pl3, sb0, if_true, if_false, eq_self, List.length_cons, List.length_nil] <;> omega) | (simp (disch := omega) [hj, std, cmpI, cmpB, satB, add64, sub64, ite0, pl0, pl2, pl3, sb0, if_true, if_false, eq_self, List.length_cons, List.length_nil] <;> omega))) | (refine ob_inb hj ?_; (first | omega | (simp only [hj, std]; split <;> omega) | (simp (disch := omega) only [hj, std, cmpI, cmpB, satB, add64, sub64, ite0, pl0, pl2, pl3, sb0, if_true, if_false, eq_self, List.length_cons, List.length_nil] <;> omega) | (simp (disch := omega) [hj, std, cmpI, cmpB, satB, add64, sub64, ite0, pl0, pl2, pl3, sb0, if_true, if_false, eq_self, List.length_cons, List.length_nil] <;> omega))) | (refine ob_pos hj ?_; (first | omega | (simp only [hj, std]; split <;> omega) | (simp (disch := omega) only [hj, std, cmpI, cmpB, satB, add64, sub64, ite0, pl0, pl2, pl3, sb0, if_true, if_false, eq_self, List.length_cons, List.length_nil] <;> omega) | (simp (disch := omega) [hj, std, cmpI, cmpB, satB, add64, sub64, ite0, pl0, pl2, pl3, sb0, if_true, if_false, eq_self, List.length_cons, List.length_nil] <;> omega))) | (refine ob_ne0 hj ?_; (first | omega | (simp only [hj, std]; split <;> omega) | (simp (disch := omega) only [hj, std, cmpI, cmpB, satB, add64, sub64, ite0, pl0, pl2, pl3, sb0, if_true, if_false, eq_self, List.length_cons, List.length_nil] <;> omega) | (simp (disch := omega) [hj, std, cmpI, cmpB, satB, add64, sub64, ite0, pl0, pl2, pl3, sb0, if_true, if_false, eq_self, List.length_cons, List.length_nil] <;> omega))) | (refine ob_eqb hj ?_; (first | rfl | first | omega | (simp only [hj, std]; split <;> omega) | (simp (disch := omega) only [hj, std, cmpI, cmpB, satB, add64, sub64, ite0, pl0, pl2, pl3, sb0, if_true, if_false, eq_self, List.length_cons, List.length_nil] <;> omega) | (simp (disch := omega) [hj, std, cmpI, cmpB, satB, add64, sub64, ite0, pl0, pl2, pl3, sb0, if_true, if_false, eq_self, List.length_cons, List.length_nil] <;> omega))) | ((refine ob_ok hj ?_; simp only [hj, std]; exact ⟨_, hat (by omega)⟩)) | ((refine ob_le hj ?_; simp only [hj, std]; exact Nat.le_trans (Nat.add_le_add hoz (hgz (by omega))) (by omega))) | ((refine r1s ?_; exact hcut (by omega))) | ((simp (disch := omega) only [hj, std, add64]; first | omega | (rcases hnext (by omega) with q | q; exact .inr (.inl q); exact .inr (.inr q)))))
end Go.Proofs.Ytkkieddebnhpcaa.A

/- Sets of words: the program's products. -/
set_option linter.unusedSimpArgs false
set_option linter.unusedVariables false
set_option maxRecDepth 100000
set_option maxHeartbeats 4000000
namespace Go.Proofs.Ytkkieddebnhpcaa.A
open Go
/-- what the program has seen of words: the words, and how often -/
def Seen (m : GM) (d : List ByteArray) (b : Nat) : Prop := ∀ w : ByteArray, ∃ c : Int, mgetS m w (vI 0) = vI c ∧ 0 ≤ c ∧ c ≤ b ∧ (c = 0 ↔ w ∉ d)
def addS (d : List ByteArray) (w : ByteArray) : List ByteArray := if hasS d w = true then d else d ++ [w]
def bumpS (m : GM) (w : ByteArray) : GM := m.set (.string w) (vI (gi (mgetC m.ks m.vs (.string w) (vI 0)) + 1))
theorem addS_mem {d : List ByteArray} {w x : ByteArray} : x ∈ addS d w ↔ x ∈ d ∨ x = w := by
  unfold addS
  split
  · rename_i h
    rw [hasS_iff] at h
    exact ⟨.inl, fun k => k.elim id fun e => e ▸ h⟩
  · simp
theorem seen_new : Seen GM.new [] 0 := fun w => ⟨0, mget_new w _, by omega, by omega, by simp⟩
theorem seen_bump {m : GM} {d : List ByteArray} {b : Nat} (h : Seen m d b) (w : ByteArray) : Seen (bumpS m w) (addS d w) (b + 1) := by
  intro x
  unfold bumpS
  rw [mget_set]
  by_cases e : w = x
  · subst e
    rw [if_pos rfl]
    obtain ⟨c, h1, h2, h3, h4⟩ := h w
    refine ⟨_, rfl, ?_⟩
    have h5 : gi (mgetC m.ks m.vs (.string w) (vI 0)) = c := by
      have : mgetC m.ks m.vs (.string w) (vI 0) = vI c := h1
      rw [this]; rfl
    rw [h5]
    refine ⟨by omega, by omega, ?_⟩
    rw [addS_mem]
    exact ⟨fun hh => by omega, fun hh => absurd (.inr rfl) hh⟩
  · rw [if_neg e]
    obtain ⟨c, h1, h2, h3, h4⟩ := h x
    refine ⟨c, h1, h2, by omega, ?_⟩
    rw [h4, addS_mem]
    exact ⟨fun k hh => hh.elim k fun e2 => e e2.symm, fun k hh => k (.inl hh)⟩
theorem pc_put (m : GM) (n : Nat) (cs : List C) (d : List ByteArray) (w : ByteArray) (b : Nat) (hn : n = nS d) (hc : cs = sC d) (hS : Seen m d b) (hb : b ≤ 1000000) (hd : nS d ≤ 1000000) : PC Try.prog T 50 [.v false [vS w], .root (.box [.map .str m]), .root (.box [.own strT n cs])] (ret1 (.st (vB (decide (nS (addS d w) ≤ 4096))))) [.none, .box [.map .str (bumpS m w)], .box [.own strT (nS (addS d w)) (sC (addS d w))]] := by
  refine pc_of tok Try.func50 rfl (by rfl) ?_
  obtain ⟨j, hj⟩ : ∃ j : J, j = std Try.prog T := ⟨_, rfl⟩
  have hm : Try.prog.follows .mixedOrders = true := by kernel_rfl
  obtain ⟨c, c1, c2, c3, c4⟩ := hS w
  have c1' : mgetC m.ks m.vs (.string w) (vI 0) = vI c := c1
  have c5 : gi (mgetC m.ks m.vs (.string w) (vI 0)) = c := by rw [c1']; rfl
  have c6 : arithI .add .i64 c 1 = c + 1 := add64 (by omega) (by omega)
  have hbump : j.mset m (.string w) (.val (.int .i64 (j.arith .add .i64 (j.gi (j.mget m.ks m.vs (.string w) (.val (.int .i64 0)))) 1))) = bumpS m w := by
    rw [hj]; show m.set _ (vI (arithI .add .i64 (gi (mgetC m.ks m.vs (.string w) (vI 0))) 1)) = _; unfold bumpS; rw [c5, c6]
  generalize y_sC : @sC = x_sC at *
  generalize y_nS : @nS = x_nS at *
  generalize y_strsOf : @strsOf = x_strsOf at *
  generalize y_cutS : @cutS = x_cutS at *
  generalize y_srtS : @srtS = x_srtS at *
  generalize y_cpS : @cpS = x_cpS at *
  generalize y_addS : @addS = x_addS at *
  generalize y_bumpS : @bumpS = x_bumpS at *
  (repeat' first | (refine ⟨.inr rfl, ret_oku hj (by cbv) (by cbv) rfl ?_ ?_ (upd_of ?_)⟩) | (with_reducible refine tr_cut (fun h => ?_) (fun h => ?_) <;> (try simp (disch := omega) only [hj, std, cmpI, cmpB, satB, Bool.not_eq_true, Bool.not_eq_false, decide_eq_true_eq, decide_eq_false_iff_not, beq_iff_eq, bne_iff_ne, bne_eq_false_iff_eq, beq_eq_false_iff_ne, ne_eq, reduceCtorEq, not_true_eq_false, not_false_eq_true, pl0, if_true, cmpS_eq, cmpS_neq, Bool.not_eq_eq_eq_not, Bool.not_true, Bool.not_false, Bool.not_eq_true', add64, sub64] at h) <;> (try (exfalso; omega))) | (with_reducible refine tr_alt (fun h => ?_) ?_ <;> (try (exfalso; omega))) | (with_reducible refine tr_ob ?_ ?_) | (with_reducible refine tr_done ?_) | (refine aw_tr hj tok (bookQ x_sC x_nS x_strsOf x_cutS x_srtS x_cpS) (by cbv) ?_) | (refine aw_seq fun K hK => ?_) | (refine aw_tr1 hj tok (bookQ x_sC x_nS x_strsOf x_cutS x_srtS x_cpS) (by cbv) ?_) | (refine aw_condj (by cbv) (fun h => ?_) (fun h => ?_) <;> (try simp (disch := omega) only [hj, std, cmpI, cmpB, satB, Bool.not_eq_true, Bool.not_eq_false, decide_eq_true_eq, decide_eq_false_iff_not, beq_iff_eq, bne_iff_ne, bne_eq_false_iff_eq, beq_eq_false_iff_ne, ne_eq, reduceCtorEq, not_true_eq_false, not_false_eq_true, pl0, if_true, cmpS_eq, cmpS_neq, Bool.not_eq_eq_eq_not, Bool.not_true, Bool.not_false, Bool.not_eq_true', add64, sub64] at h) <;> (try (exfalso; omega))) | (refine aw_skip ?_) | (refine aw_block ?_) | (refine aw_exit ?_) | (refine aw_ret ⟨.inr rfl, ret_okj hj (by cbv) ?_ ?_⟩) | (refine aw_ret ?_) | (with_reducible refine th_n ?_) | (with_reducible refine th_r ?_) | (with_reducible refine th_x ?_) | (with_reducible refine blk_n ?_) | (with_reducible refine blk_r ?_) | (with_reducible refine blk_x ?_) | (with_reducible refine blk_y rfl ?_) | (refine ⟨.inr rfl, ret_okj hj (by cbv) ?_ ?_⟩) | (refine ⟨.inl rfl, ret_okj hj (by cbv) ?_ ?_⟩) | ((with_reducible refine ⟨(_, _, _, _, _, _, _), by cbv, ?_, ?_⟩)) | ((with_reducible refine ⟨(_, _, _, _, _, _), by cbv, ?_, ?_⟩)) | ((with_reducible refine ⟨(_, _, _, _, _), by cbv, ?_, ?_⟩)) | ((with_reducible refine ⟨(_, _, _, _), by cbv, ?_, ?_⟩)) | ((with_reducible refine ⟨(_, _, _), by cbv, ?_, ?_⟩)) | ((with_reducible refine ⟨(_, _), by cbv, ?_, ?_⟩)) | ((with_reducible refine ⟨_, by cbv, ?_, ?_⟩)) | (with_reducible apply_assumption -symm -exfalso only [*]))
  all_goals ((try subst y_sC); (try subst y_nS); (try subst y_strsOf); (try subst y_cutS); (try subst y_srtS); (try subst y_cpS); (try subst y_addS); (try subst y_bumpS))
  all_goals (try (have q := ‹gi (mgetC m.ks m.vs (.string w) _) = 0›; rw [c5] at q; have ha : addS d w = d ++ [w] := if_neg (fun hh => c4.1 q (hasS_iff.1 hh)); have n1 : (if n = 0 then 1 else j.add n 1) = nS (addS d w) := (by rw [ha, hj]; simp only [nS_eq, List.length_append, List.length_singleton]; show (if n = 0 then 1 else n + 1) = _; rw [ite0, hn, nS_eq]); have n2 : j.app cs [vS w] = sC (addS d w) := (by rw [ha, hj, hc]; exact sC_snoc d w)))
  all_goals (try (have q := ‹¬ gi (mgetC m.ks m.vs (.string w) _) = 0›; rw [c5] at q; have ha : addS d w = d := if_pos (hasS_iff.2 (by by_cases hh : w ∈ d; exact hh; exact absurd (c4.2 hh) q)); have n1 : n = nS (addS d w) := (by rw [ha]; exact hn); have n2 : cs = sC (addS d w) := (by rw [ha]; exact hc)))
  all_goals (try (repeat' first | with_reducible exact obl0 | with_reducible refine obl1 ?_ ?_))
  all_goals (try first | with_reducible exact True.intro | (refine ob_le hj ?_; (first | omega | (simp only [hj, std]; split <;> omega) | (simp (disch := omega) only [hj, std, cmpI, cmpB, satB, add64, sub64, ite0, pl0, pl2, pl3, sb0, if_true, if_false, eq_self] <;> omega) | (simp (disch := omega) [hj, std, cmpI, cmpB, satB, add64, sub64, ite0, pl0, pl2, pl3, sb0, if_true, if_false, eq_self] <;> omega))) | (refine ob_lei hj ?_; (first | omega | (simp only [hj, std]; split <;> omega) | (simp (disch := omega) only [hj, std, cmpI, cmpB, satB, add64, sub64, ite0, pl0, pl2, pl3, sb0, if_true, if_false, eq_self] <;> omega) | (simp (disch := omega) [hj, std, cmpI, cmpB, satB, add64, sub64, ite0, pl0, pl2, pl3, sb0, if_true, if_false, eq_self] <;> omega))) | (refine ob_inb hj ?_; (first | omega | (simp only [hj, std]; split <;> omega) | (simp (disch := omega) only [hj, std, cmpI, cmpB, satB, add64, sub64, ite0, pl0, pl2, pl3, sb0, if_true, if_false, eq_self] <;> omega) | (simp (disch := omega) [hj, std, cmpI, cmpB, satB, add64, sub64, ite0, pl0, pl2, pl3, sb0, if_true, if_false, eq_self] <;> omega))) | (refine ob_pos hj ?_; (first | omega | (simp only [hj, std]; split <;> omega) | (simp (disch := omega) only [hj, std, cmpI, cmpB, satB, add64, sub64, ite0, pl0, pl2, pl3, sb0, if_true, if_false, eq_self] <;> omega) | (simp (disch := omega) [hj, std, cmpI, cmpB, satB, add64, sub64, ite0, pl0, pl2, pl3, sb0, if_true, if_false, eq_self] <;> omega))) | (refine ob_ne0 hj ?_; (first | omega | (simp only [hj, std]; split <;> omega) | (simp (disch := omega) only [hj, std, cmpI, cmpB, satB, add64, sub64, ite0, pl0, pl2, pl3, sb0, if_true, if_false, eq_self] <;> omega) | (simp (disch := omega) [hj, std, cmpI, cmpB, satB, add64, sub64, ite0, pl0, pl2, pl3, sb0, if_true, if_false, eq_self] <;> omega))) | (refine ob_eqb hj ?_; (first | rfl | first | omega | (simp only [hj, std]; split <;> omega) | (simp (disch := omega) only [hj, std, cmpI, cmpB, satB, add64, sub64, ite0, pl0, pl2, pl3, sb0, if_true, if_false, eq_self] <;> omega) | (simp (disch := omega) [hj, std, cmpI, cmpB, satB, add64, sub64, ite0, pl0, pl2, pl3, sb0, if_true, if_false, eq_self] <;> omega))) | ((refine ob_ok hj ?_; rw [hj]; exact ⟨_, c1'⟩)) | ((refine r1b ?_; simp only [n1]; rw [hj]; simp [std, cmpI] <;> omega)) | ((refine upd_none (upd_box ?_ (upd_box ?_ (upd_nil _))); exact congrArg (fun x => Root.box [RC.map KK.str x]) hbump; exact congr (congrArg (fun n cs => Root.box [RC.own 9 n cs]) n1) n2)))
end Go.Proofs.Ytkkieddebnhpcaa.A

/- Sets of words: words in the order in which they came first. -/
set_option linter.unusedSimpArgs false
set_option linter.unusedVariables false
set_option maxRecDepth 100000
set_option maxHeartbeats 4000000
namespace Go.Proofs.Ytkkieddebnhpcaa.A
open Go
def fitS (n : Nat) : Bool := decide (n ≤ 4096)
def ddS (l : List ByteArray) : List ByteArray := l.foldl addS []
theorem ddS_snoc (l : List ByteArray) (w : ByteArray) : ddS (l ++ [w]) = addS (ddS l) w := by unfold ddS; rw [List.foldl_append]; rfl
theorem dd_fold (l d : List ByteArray) (h : d.Nodup) : (l.foldl addS d).Nodup ∧ (∀ x, x ∈ l.foldl addS d ↔ x ∈ d ∨ x ∈ l) ∧ (l.foldl addS d).length ≤ d.length + l.length := by
  induction l generalizing d with
  | nil => exact ⟨h, fun x => by simp, by simp⟩
  | cons w l ih =>
    have h1 : (addS d w).Nodup := by
      unfold addS
      split
      · exact h
      · rename_i hw
        exact List.nodup_append.2 ⟨h, by simp, fun a ha b hb hab => hw (hasS_iff.2 (by rw [List.mem_singleton.1 hb] at hab; rw [← hab]; exact ha))⟩
    have h3 : (addS d w).length ≤ d.length + 1 := by unfold addS; split <;> simp
    obtain ⟨i1, i2, i3⟩ := ih (addS d w) h1
    rw [List.foldl_cons]
    refine ⟨i1, fun x => ?_, by rw [List.length_cons]; omega⟩
    rw [i2, addS_mem, List.mem_cons]
    constructor
    · rintro ((a | a) | a) <;> simp [a]
    · rintro (a | a | a) <;> simp [a]
theorem dd_nodup (l : List ByteArray) : (ddS l).Nodup := (dd_fold l [] (by simp)).1
theorem dd_mem {l : List ByteArray} {x : ByteArray} : x ∈ ddS l ↔ x ∈ l := by
  unfold ddS; rw [(dd_fold l [] (by simp)).2.1]; simp
theorem dd_len (l : List ByteArray) : (ddS l).length ≤ l.length := by have := (dd_fold l [] (by simp)).2.2; unfold ddS; simpa using this
theorem nodup_le {α : Type} [DecidableEq α] : ∀ {l m : List α}, l.Nodup → (∀ x, x ∈ l → x ∈ m) → l.length ≤ m.length
  | [], _, _, _ => by simp
  | x :: l, m, h, k => by
    obtain ⟨h1, h2⟩ := List.nodup_cons.1 h
    have hx : x ∈ m := k x (List.mem_cons_self ..)
    have := nodup_le (l := l) (m := m.erase x) h2 fun y hy => by
      have hne : y ≠ x := fun e => h1 (by rw [← e]; exact hy)
      rw [List.mem_erase_of_ne hne]
      exact k y (List.mem_cons_of_mem _ hy)
    rw [List.length_erase_of_mem hx] at this
    have hp := List.length_pos_of_mem hx
    rw [List.length_cons]; omega
theorem set_nodup {l : List ByteArray} (h : Set' l) : l.Nodup := by
  refine List.Pairwise.imp (fun {a b} hab e => ?_) h
  subst e
  rw [ltS_irr] at hab
  cases hab
theorem dd_set {l m : List ByteArray} (h : ∀ x, x ∈ l → x ∈ m) : (ddS l).length ≤ (setS m).length := nodup_le (dd_nodup l) fun x hx => mem_setS.2 (h x (dd_mem.1 hx))
theorem set_dd (l : List ByteArray) : (setS l).length ≤ (ddS l).length := nodup_le (set_nodup (setS_set l)) fun x hx => dd_mem.2 (mem_setS.1 hx)
def okC (k : Int) (a b : List ByteArray) : Bool := decide ((setS (prodS k a b)).length ≤ 4096)
def catR (k : Int) (a b : List ByteArray) : List ByteArray := if okC k a b = true then setS (prodS k a b) else []
/-- so far: the products of the words ahead, and some of the next one's -/
def soFar (k : Int) (a b : List ByteArray) (i p : Int) : List ByteArray := prodP k (a.take i.toNat) b ++ (rowP k (sAt a i.toNat) b).take p.toNat
theorem prodP_few {k : Int} {a b : List ByteArray} : (prodP k a b).length ≤ a.length * b.length := by
  unfold prodP rowP rowS
  induction a with
  | nil => simp
  | cons x a ih =>
    rw [List.flatMap_cons, List.length_append, List.length_map, List.length_cons, Nat.succ_mul]
    have : (if k ≤ (x.size : Int) then b.take 1 else b).length ≤ b.length := by split; rw [List.length_take]; omega; omega
    omega
theorem rowP_len {k : Int} {x : ByteArray} {b : List ByteArray} : (rowP k x b).length ≤ b.length := by
  unfold rowP rowS
  rw [List.length_map]
  split
  · rw [List.length_take]; omega
  · omega
theorem soFar_few {k : Int} {a b : List ByteArray} {i p : Int} (ha : a.length ≤ 300) (hb : b.length ≤ 300) : (soFar k a b i p).length ≤ 100000 := by
  unfold soFar
  have h1 := prodP_few (k := k) (a := a.take i.toNat) (b := b)
  have h2 : (a.take i.toNat).length * b.length ≤ 300 * 300 := Nat.mul_le_mul (by rw [List.length_take]; omega) hb
  have h3 := rowP_len (k := k) (x := sAt a i.toNat) (b := b)
  rw [List.length_append, List.length_take]
  omega
theorem soFar_0 {k : Int} {a b : List ByteArray} : soFar k a b 0 0 = [] := by simp [soFar, prodP]
theorem soFar_i {k : Int} {a b : List ByteArray} {i : Int} : soFar k a b i 0 = prodP k (a.take i.toNat) b := by simp [soFar]
theorem soFar_row {k : Int} {a b : List ByteArray} {i p : Int} (h0 : 0 ≤ i) (h : i < nS a) (hp : ¬ p < (rowP k (sAt a i.toNat) b).length) : soFar k a b i p = soFar k a b (i + 1) 0 := by
  rw [soFar_i]
  unfold soFar
  rw [take_step a i h0 h, List.take_of_length_le (show (rowP k (sAt a i.toNat) b).length ≤ p.toNat by omega)]
  unfold prodP
  rw [List.flatMap_append]; simp
theorem soFar_next {k : Int} {a b : List ByteArray} {i p : Int} {r : List ByteArray} (hr : r = if k ≤ ((sAt a i.toNat).size : Int) then b.take 1 else b) (h0 : 0 ≤ p) (h : p < nS r) : soFar k a b i (p + 1) = soFar k a b i p ++ [cutS (sAt a i.toNat ++ sAt r p.toNat) k] := by
  unfold soFar rowP
  rw [← hr]
  unfold rowS
  rw [← List.map_take, ← List.map_take, take_step r p h0 h, List.append_assoc]
  simp
theorem soFar_in {k : Int} {a b : List ByteArray} {i p : Int} (h0 : 0 ≤ i) (h : i < nS a) : ∀ x, x ∈ soFar k a b i p → x ∈ prodS k a b := by
  intro x hx
  rw [← prodP_mem]
  unfold soFar at hx
  unfold prodP at hx ⊢
  rcases List.mem_append.1 hx with hx | hx
  · obtain ⟨y, hy, hx⟩ := List.mem_flatMap.1 hx
    exact List.mem_flatMap.2 ⟨y, List.mem_of_mem_take hy, hx⟩
  · exact List.mem_flatMap.2 ⟨_, sAt_mem a i h0 h, List.mem_of_mem_take hx⟩
/-- what is gone through of the second set -/
def rS (k : Int) (x : ByteArray) (b : List ByteArray) : List ByteArray := if k ≤ (x.size : Int) then b.take 1 else b
theorem rS_one {k : Int} {x : ByteArray} {b : List ByteArray} (h : k ≤ (x.size : Int)) (hb : 0 < nS b) : 1 = nS (rS k x b) ∧ extC (sC b) 0 1 = sC (rS k x b) := by
  unfold rS; rw [if_pos h, sC_ext, List.drop_zero]
  refine ⟨?_, rfl⟩
  rw [nS_eq] at hb ⊢
  rw [List.length_take]; omega
theorem rS_no {k : Int} {x : ByteArray} {b : List ByteArray} (h : ¬ k ≤ (x.size : Int) ∨ nS b = 0) : rS k x b = b := by
  unfold rS
  split
  · rename_i hk
    rw [nS_eq] at h
    have : b = [] := List.length_eq_zero_iff.1 (by omega)
    rw [this]; rfl
  · rfl
theorem rS_mem {k : Int} {x : ByteArray} {b : List ByteArray} : ∀ s, s ∈ rS k x b → s ∈ b := by
  intro s hs
  unfold rS at hs
  split at hs
  · exact List.mem_of_mem_take hs
  · exact hs
theorem rS_few {k : Int} {x : ByteArray} {b : List ByteArray} : nS (rS k x b) ≤ nS b := by
  rw [nS_eq, nS_eq]; unfold rS
  split
  · rw [List.length_take]; omega
  · omega
theorem rS_row {k : Int} {x : ByteArray} {b : List ByteArray} : (rowP k x b).length = nS (rS k x b) := by
  rw [nS_eq]; unfold rowP rowS rS; rw [List.length_map]
theorem not_ok {k : Int} {a b : List ByteArray} {l : List ByteArray} (h : fitS (nS (ddS l)) = false) (hl : ∀ x, x ∈ l → x ∈ prodS k a b) : okC k a b = false := by
  unfold fitS at h
  unfold okC
  have := dd_set hl
  rw [nS_eq] at h
  simp only [decide_eq_false_iff_not] at h ⊢
  omega
theorem is_ok {k : Int} {a b : List ByteArray} (h : nS (ddS (prodP k a b)) ≤ 4096) : okC k a b = true := by
  unfold okC
  have := set_dd (prodP k a b)
  rw [prodP_set] at this
  rw [nS_eq] at h
  simp only [decide_eq_true_eq]
  omega
theorem setS_dd (l : List ByteArray) : setS (ddS l) = setS l := setS_same fun x => dd_mem
end Go.Proofs.Ytkkieddebnhpcaa.A

/- Sets of words: the program's product of two sets. -/
set_option linter.unusedSimpArgs false
set_option linter.unusedVariables false
set_option maxRecDepth 100000
set_option maxHeartbeats 4000000
namespace Go.Proofs.Ytkkieddebnhpcaa.A
open Go
abbrev fnPut : FuncId := 50
def bookC (x_sC : List ByteArray → List C) (x_nS : List ByteArray → Nat) (x_setS : List ByteArray → List ByteArray) (x_strsOf : List C → List ByteArray) (x_cutS : ByteArray → Int → ByteArray) (x_fitS : Nat → Bool) (x_addS : List ByteArray → ByteArray → List ByteArray) (x_bumpS : GM → ByteArray → GM) : Book := fun f xs => match f, xs with
  | 50, [.v false [.val (.string w)], .root (.box [.map .str m]), .root (.box [.own _ _ cs])] => some (ret1 (.st (vB (x_fitS (x_nS (x_addS (x_strsOf cs) w))))), [.none, .box [.map .str (x_bumpS m w)], .box [.own strT (x_nS (x_addS (x_strsOf cs) w)) (x_sC (x_addS (x_strsOf cs) w))]])
  | 51, [.v false [.val (.int .i64 k)], .v false [.sl 2 [.val (.string x), .val (.string y)]]] => some (ret1 (.st (vS (x_cutS (x ++ y) k))))
  | 18, [.v false [.sl _ cs]] => some (ret1 (.own strT (x_nS (x_setS (x_strsOf cs))) (x_sC (x_setS (x_strsOf cs)))))
  | _, _ => none
theorem c_putS {m : GM} {n : Nat} {cs : List C} {d : List ByteArray} {w : ByteArray} {b : Nat} (hn : n = nS d) (hc : cs = sC d) (hS : Seen m d b) (hb : b ≤ 1000000) (hd : nS d ≤ 1000000) :
    (std Try.prog T).pc 50 [.v false [vS w], .root (.box [.map .str m]), .root (.box [.own strT n cs])] (ret1 (.st (vB (fitS (nS (addS (strsOf cs) w)))))) [.none, .box [.map .str (bumpS m w)], .box [.own strT (nS (addS (strsOf cs) w)) (sC (addS (strsOf cs) w))]] := by
  have e : strsOf cs = d := by rw [hc, strsOf_sC]
  rw [e]
  exact ⟨enters Try.func50 (by kernel_rfl) (by kernel_rfl), pc_put m n cs d w b hn hc hS hb hd⟩
theorem c_CatW {k : Int} {x y : ByteArray} (hx : x.size ≤ 10000) (hy : y.size ≤ 10000) : pc 51 [.v false [vI k], .v false [.sl 2 [vS x, vS y]]] (ret1 (.st (vS (cutS (x ++ y) k)))) := ⟨enters Try.func51 (by kernel_rfl) (by kernel_rfl), pc_CatW k x y hx hy⟩
theorem c_OfP {l : List ByteArray} {n : Nat} {cs : List C} (hn : n = nS l) (hc : cs = sC l) (hl : nS l ≤ 1000000) : pc 18 [.v false [.sl n cs]] (ret1 (.own strT (nS (setS (strsOf cs))) (sC (setS (strsOf cs))))) := by
  subst hn; subst hc
  rw [strsOf_sC]
  exact ⟨enters Try.func18 (by kernel_rfl) (by kernel_rfl), pc_OfP l hl⟩
def rCat (k : Int) (a b : List ByteArray) : RV := rets [(false, [.own strT (nS (catR k a b)) (sC (catR k a b))]), (false, [.st (vB (okC k a b))])]
theorem rCat_no {k : Int} {a b : List ByteArray} (h : okC k a b = false) : rCat k a b = ⟨true, [(false, [.own strT 0 []]), (false, [.st (.val (.bool false))])]⟩ := by
  unfold rCat catR; rw [h]; rfl
theorem rCat_yes {k : Int} {a b : List ByteArray} {n : Nat} {cs : List C} (h : okC k a b = true) (hn : n = nS (setS (prodS k a b))) (hc : cs = sC (setS (prodS k a b))) : rCat k a b = ⟨true, [(false, [.own strT n cs]), (false, [.st (.val (.bool true))])]⟩ := by
  unfold rCat catR; rw [h, hn, hc]; rfl
theorem pc_CatP (k : Int) (a b : List ByteArray) (ha : nS a ≤ 300) (hb : nS b ≤ 300) (hsa : ∀ s ∈ a, s.size ≤ 50) (hsb : ∀ s ∈ b, s.size ≤ 50) : PC Try.prog T 14 [.v false [vI k], .v false [(C.sl (nS a) (sC a))], .v false [(C.sl (nS b) (sC b))]] (rCat k a b) [] := by
  refine pc_of tok Try.func14 rfl (by rfl) ?_
  obtain ⟨j, hj⟩ : ∃ j : J, j = std Try.prog T := ⟨_, rfl⟩
  have hm : Try.prog.follows .mixedOrders = true := by kernel_rfl
  have na := nS_eq a
  have nb := nS_eq b
  generalize y_sC : @sC = x_sC at *
  generalize y_nS : @nS = x_nS at *
  generalize y_setS : @setS = x_setS at *
  generalize y_strsOf : @strsOf = x_strsOf at *
  generalize y_cutS : @cutS = x_cutS at *
  generalize y_fitS : @fitS = x_fitS at *
  generalize y_addS : @addS = x_addS at *
  generalize y_bumpS : @bumpS = x_bumpS at *
  (repeat' first | (with_reducible refine tr_cut (fun h => ?_) (fun h => ?_) <;> (try simp (disch := omega) only [hj, std, cmpI, cmpB, satB, Bool.not_eq_true, Bool.not_eq_false, decide_eq_true_eq, decide_eq_false_iff_not, beq_iff_eq, bne_iff_ne, bne_eq_false_iff_eq, beq_eq_false_iff_ne, ne_eq, reduceCtorEq, not_true_eq_false, not_false_eq_true, pl0, if_true, cmpS_eq, cmpS_neq, Bool.not_eq_eq_eq_not, Bool.not_true, Bool.not_false, Bool.not_eq_true', add64, sub64] at h) <;> (try (exfalso; omega))) | (with_reducible refine tr_alt (fun h => ?_) ?_ <;> (try (exfalso; omega))) | (with_reducible refine tr_ob ?_ ?_) | (with_reducible refine tr_done ?_) | (refine aw_tr hj tok (bookC x_sC x_nS x_setS x_strsOf x_cutS x_fitS x_addS x_bumpS) (by cbv) ?_) | (refine aw_seq fun K hK => ?_) | (refine aw_tr1 hj tok (bookC x_sC x_nS x_setS x_strsOf x_cutS x_fitS x_addS x_bumpS) (by cbv) ?_) | (refine aw_condj (by cbv) (fun h => ?_) (fun h => ?_) <;> (try simp (disch := omega) only [hj, std, cmpI, cmpB, satB, Bool.not_eq_true, Bool.not_eq_false, decide_eq_true_eq, decide_eq_false_iff_not, beq_iff_eq, bne_iff_ne, bne_eq_false_iff_eq, beq_eq_false_iff_ne, ne_eq, reduceCtorEq, not_true_eq_false, not_false_eq_true, pl0, if_true, cmpS_eq, cmpS_neq, Bool.not_eq_eq_eq_not, Bool.not_true, Bool.not_false, Bool.not_eq_true', add64, sub64] at h) <;> (try (exfalso; omega))) | (refine aw_skip ?_) | (refine aw_block ?_) | (refine aw_exit ?_) | (refine aw_ret ⟨.inr rfl, ret_okj hj (by cbv) ?_ ?_⟩) | (refine aw_ret ?_) | (with_reducible refine th_n ?_) | (with_reducible refine th_r ?_) | (with_reducible refine th_x ?_) | (with_reducible refine blk_n ?_) | (with_reducible refine blk_r ?_) | (with_reducible refine blk_x ?_) | (with_reducible refine blk_y rfl ?_) | (refine ⟨.inr rfl, ret_okj hj (by cbv) ?_ ?_⟩) | (refine ⟨.inl rfl, ret_okj hj (by cbv) ?_ ?_⟩) | ((with_reducible refine ⟨(_, _, _, _, _, _, _), by cbv, ?_, ?_⟩)) | ((with_reducible refine ⟨(_, _, _, _, _, _), by cbv, ?_, ?_⟩)) | ((with_reducible refine ⟨(_, _, _, _, _), by cbv, ?_, ?_⟩)) | ((with_reducible refine ⟨(_, _, _, _), by cbv, ?_, ?_⟩)) | ((with_reducible refine ⟨(_, _, _), by cbv, ?_, ?_⟩)) | ((with_reducible refine ⟨(_, _), by cbv, ?_, ?_⟩)) | ((with_reducible refine ⟨_, by cbv, ?_, ?_⟩)) | (with_reducible apply_assumption -symm -exfalso only [*]))
  all_goals ((try subst y_sC); (try subst y_nS); (try subst y_setS); (try subst y_strsOf); (try subst y_cutS); (try subst y_fitS); (try subst y_addS); (try subst y_bumpS))
  refine aw_lpj hj [(0, .keep), (2, .keep), (9, .keep), (10, .keep), (18, .keep), (19, .keep), (20, .keep), (9, .box 0 strT)] [8, 9] (fun (⟨i, m, n, cs⟩ : Int × GM × Nat × (List C)) => stOf 54 [(0, .one (.c (vI k))), (2, .one (.c ((C.sl (nS b) (sC b))))), (9, .one (.ptr 9 0)), (10, .one (.fn fnPut [8, 9])), (18, .one (.c ((C.sl (nS a) (sC a))))), (19, .one (.c (vI (j.ofNat (nS a))))), (20, .one (.c (vI i)))] [(8, .box [.map .str m]), (9, .box [.own strT n cs])]) (fun (⟨i, m, n, cs⟩ : Int × GM × Nat × (List C)) => nS a - i.toNat) (fun (⟨i, m, n, cs⟩ : Int × GM × Nat × (List C)) => 0 ≤ i ∧ i ≤ nS a ∧ n = nS (ddS (soFar k a b i 0)) ∧ cs = sC (ddS (soFar k a b i 0)) ∧ Seen m (ddS (soFar k a b i 0)) (soFar k a b i 0).length ∧ nS (ddS (soFar k a b i 0)) ≤ 4096) ((0, j.mnew, 0, [])) (by generalize @sC = x_sC; generalize @nS = x_nS; generalize @setS = x_setS; generalize @strsOf = x_strsOf; generalize @cutS = x_cutS; generalize @fitS = x_fitS; generalize @addS = x_addS; generalize @bumpS = x_bumpS; cbv) ?_ (fun ⟨i, m, n, cs⟩ hI => ?_)
  · refine ⟨by omega, by omega, ?_⟩
    rw [hj]
    show 0 = nS (ddS (soFar k a b 0 0)) ∧ [] = sC (ddS (soFar k a b 0 0)) ∧ Seen GM.new (ddS (soFar k a b 0 0)) (soFar k a b 0 0).length ∧ nS (ddS (soFar k a b 0 0)) ≤ 4096
    rw [soFar_0]; exact ⟨rfl, rfl, seen_new, by decide⟩
  obtain ⟨i1, i2, i3, i4, i5, i6⟩ := hI
  have hfin : ¬ i < nS a → strsOf cs = ddS (prodP k a b) ∧ n = nS (ddS (prodP k a b)) ∧ cs = sC (ddS (prodP k a b)) ∧ nS (ddS (prodP k a b)) ≤ 4096 := fun h => by
    rw [soFar_i, take_fin a i h] at i3 i4 i6
    exact ⟨by rw [i4, strsOf_sC], i3, i4, i6⟩
  generalize y_sC : @sC = x_sC at *
  generalize y_nS : @nS = x_nS at *
  generalize y_setS : @setS = x_setS at *
  generalize y_strsOf : @strsOf = x_strsOf at *
  generalize y_cutS : @cutS = x_cutS at *
  generalize y_fitS : @fitS = x_fitS at *
  generalize y_addS : @addS = x_addS at *
  generalize y_bumpS : @bumpS = x_bumpS at *
  (repeat' first | (with_reducible refine tr_cut (fun h => ?_) (fun h => ?_) <;> (try simp (disch := omega) only [hj, std, cmpI, cmpB, satB, Bool.not_eq_true, Bool.not_eq_false, decide_eq_true_eq, decide_eq_false_iff_not, beq_iff_eq, bne_iff_ne, bne_eq_false_iff_eq, beq_eq_false_iff_ne, ne_eq, reduceCtorEq, not_true_eq_false, not_false_eq_true, pl0, if_true, cmpS_eq, cmpS_neq, Bool.not_eq_eq_eq_not, Bool.not_true, Bool.not_false, Bool.not_eq_true', gs_sC, add64, sub64] at h) <;> (try (exfalso; omega))) | (with_reducible refine tr_alt (fun h => ?_) ?_ <;> (try (exfalso; omega))) | (with_reducible refine tr_ob ?_ ?_) | (with_reducible refine tr_done ?_) | (refine aw_tr hj tok (bookC x_sC x_nS x_setS x_strsOf x_cutS x_fitS x_addS x_bumpS) (by cbv) ?_) | (refine aw_seq fun K hK => ?_) | (refine aw_tr1 hj tok (bookC x_sC x_nS x_setS x_strsOf x_cutS x_fitS x_addS x_bumpS) (by cbv) ?_) | (refine aw_condj (by cbv) (fun h => ?_) (fun h => ?_) <;> (try simp (disch := omega) only [hj, std, cmpI, cmpB, satB, Bool.not_eq_true, Bool.not_eq_false, decide_eq_true_eq, decide_eq_false_iff_not, beq_iff_eq, bne_iff_ne, bne_eq_false_iff_eq, beq_eq_false_iff_ne, ne_eq, reduceCtorEq, not_true_eq_false, not_false_eq_true, pl0, if_true, cmpS_eq, cmpS_neq, Bool.not_eq_eq_eq_not, Bool.not_true, Bool.not_false, Bool.not_eq_true', gs_sC, add64, sub64] at h) <;> (try (exfalso; omega))) | (refine aw_skip ?_) | (refine aw_block ?_) | (refine aw_exit ?_) | (refine aw_ret ⟨.inr rfl, ret_okj hj (by cbv) ?_ ?_⟩) | (refine aw_ret ?_) | (with_reducible refine th_n ?_) | (with_reducible refine th_r ?_) | (with_reducible refine th_x ?_) | (with_reducible refine blk_n ?_) | (with_reducible refine blk_r ?_) | (with_reducible refine blk_x ?_) | (with_reducible refine blk_y rfl ?_) | (refine ⟨.inr rfl, ret_okj hj (by cbv) ?_ ?_⟩) | (refine ⟨.inl rfl, ret_okj hj (by cbv) ?_ ?_⟩) | ((with_reducible refine ⟨(_, _, _, _, _, _, _), by cbv, ?_, ?_⟩)) | ((with_reducible refine ⟨(_, _, _, _, _, _), by cbv, ?_, ?_⟩)) | ((with_reducible refine ⟨(_, _, _, _, _), by cbv, ?_, ?_⟩)) | ((with_reducible refine ⟨(_, _, _, _), by cbv, ?_, ?_⟩)) | ((with_reducible refine ⟨(_, _, _), by cbv, ?_, ?_⟩)) | ((with_reducible refine ⟨(_, _), by cbv, ?_, ?_⟩)) | ((with_reducible refine ⟨_, by cbv, ?_, ?_⟩)) | (with_reducible apply_assumption -symm -exfalso only [*]))
  all_goals ((try subst y_sC); (try subst y_nS); (try subst y_setS); (try subst y_strsOf); (try subst y_cutS); (try subst y_fitS); (try subst y_addS); (try subst y_bumpS))
  all_goals (try have hf := hfin (by omega))
  all_goals (try (repeat' first | with_reducible exact obl0 | with_reducible refine obl1 ?_ ?_))
  all_goals (try first | with_reducible exact True.intro | (refine ob_pc hj ?_; (try rw [hj]); first | exact c_OfP hf.2.1 hf.2.2.1 (by omega)) | (refine ob_le hj ?_; (first | omega | (simp only [hj, std]; split <;> omega) | (simp (disch := omega) only [hj, std, cmpI, cmpB, satB, add64, sub64, ite0, pl0, pl2, pl3, sb0, if_true, if_false, eq_self, sC_len] <;> omega) | (simp (disch := omega) [hj, std, cmpI, cmpB, satB, add64, sub64, ite0, pl0, pl2, pl3, sb0, if_true, if_false, eq_self, sC_len] <;> omega))) | (refine ob_lei hj ?_; (first | omega | (simp only [hj, std]; split <;> omega) | (simp (disch := omega) only [hj, std, cmpI, cmpB, satB, add64, sub64, ite0, pl0, pl2, pl3, sb0, if_true, if_false, eq_self, sC_len] <;> omega) | (simp (disch := omega) [hj, std, cmpI, cmpB, satB, add64, sub64, ite0, pl0, pl2, pl3, sb0, if_true, if_false, eq_self, sC_len] <;> omega))) | (refine ob_inb hj ?_; (first | omega | (simp only [hj, std]; split <;> omega) | (simp (disch := omega) only [hj, std, cmpI, cmpB, satB, add64, sub64, ite0, pl0, pl2, pl3, sb0, if_true, if_false, eq_self, sC_len] <;> omega) | (simp (disch := omega) [hj, std, cmpI, cmpB, satB, add64, sub64, ite0, pl0, pl2, pl3, sb0, if_true, if_false, eq_self, sC_len] <;> omega))) | (refine ob_pos hj ?_; (first | omega | (simp only [hj, std]; split <;> omega) | (simp (disch := omega) only [hj, std, cmpI, cmpB, satB, add64, sub64, ite0, pl0, pl2, pl3, sb0, if_true, if_false, eq_self, sC_len] <;> omega) | (simp (disch := omega) [hj, std, cmpI, cmpB, satB, add64, sub64, ite0, pl0, pl2, pl3, sb0, if_true, if_false, eq_self, sC_len] <;> omega))) | (refine ob_ne0 hj ?_; (first | omega | (simp only [hj, std]; split <;> omega) | (simp (disch := omega) only [hj, std, cmpI, cmpB, satB, add64, sub64, ite0, pl0, pl2, pl3, sb0, if_true, if_false, eq_self, sC_len] <;> omega) | (simp (disch := omega) [hj, std, cmpI, cmpB, satB, add64, sub64, ite0, pl0, pl2, pl3, sb0, if_true, if_false, eq_self, sC_len] <;> omega))) | (refine ob_eqb hj ?_; (first | rfl | first | omega | (simp only [hj, std]; split <;> omega) | (simp (disch := omega) only [hj, std, cmpI, cmpB, satB, add64, sub64, ite0, pl0, pl2, pl3, sb0, if_true, if_false, eq_self, sC_len] <;> omega) | (simp (disch := omega) [hj, std, cmpI, cmpB, satB, add64, sub64, ite0, pl0, pl2, pl3, sb0, if_true, if_false, eq_self, sC_len] <;> omega))) | ((refine ob_ok hj ?_; simp only [hj, std, ite0]; exact ok_sC (by omega))) | ((refine ob_vals hj ?_; exact sC_vals _)) | ((refine rCat_yes (is_ok hf.2.2.2) ?_ ?_ <;> rw [hf.1, setS_dd, prodP_set])))
  all_goals (have hia : i < (nS a : Int) := by assumption)
  all_goals (have hrs : ∀ (rn : Nat) (rc : List C), rn = nS (rS k (sAt a i.toNat) b) ∧ rc = sC (rS k (sAt a i.toNat) b) → (0:Int) ≤ 0 ∧ (0:Int) ≤ nS (rS k (sAt a i.toNat) b) ∧ rn = nS (rS k (sAt a i.toNat) b) ∧ rc = sC (rS k (sAt a i.toNat) b) ∧ n = nS (ddS (soFar k a b i 0)) ∧ cs = sC (ddS (soFar k a b i 0)) ∧ Seen m (ddS (soFar k a b i 0)) (soFar k a b i 0).length ∧ nS (ddS (soFar k a b i 0)) ≤ 4096 := fun rn rc h => ⟨by omega, by omega, h.1, h.2, i3, i4, i5, i6⟩)
  all_goals (clear i3 i4 i5 i6 hfin)
  all_goals (try first
    | (refine aw_lpj hj [(0, .keep), (2, .keep), (9, .keep), (10, .keep), (12, .keep), (18, .keep), (19, .keep), (20, .keep), (36, .keep), (37, .keep), (38, .keep)] [8, 9] (fun (⟨p, m, n, cs, rn, rc⟩ : Int × GM × Nat × (List C) × Nat × (List C)) => stOf 54 [(0, .one (.c (vI k))), (2, .one (.c ((C.sl (nS b) (sC b))))), (9, .one (.ptr 9 0)), (10, .one (.fn fnPut [8, 9])), (12, .one (.c (vS (j.gs (j.cell (sC a) (j.toNat i)))))), (18, .one (.c ((C.sl (nS a) (sC a))))), (19, .one (.c (vI (j.ofNat (nS a))))), (20, .one (.c (vI i))), (36, .one (.c (.sl rn rc))), (37, .one (.c (vI (j.ofNat rn)))), (38, .one (.c (vI p)))] [(8, .box [.map .str m]), (9, .box [.own strT n cs])]) (fun (⟨p, m, n, cs, rn, rc⟩ : Int × GM × Nat × (List C) × Nat × (List C)) => nS (rS k (sAt a i.toNat) b) - p.toNat) (fun (⟨p, m, n, cs, rn, rc⟩ : Int × GM × Nat × (List C) × Nat × (List C)) => 0 ≤ p ∧ p ≤ nS (rS k (sAt a i.toNat) b) ∧ rn = nS (rS k (sAt a i.toNat) b) ∧ rc = sC (rS k (sAt a i.toNat) b) ∧ n = nS (ddS (soFar k a b i p)) ∧ cs = sC (ddS (soFar k a b i p)) ∧ Seen m (ddS (soFar k a b i p)) (soFar k a b i p).length ∧ nS (ddS (soFar k a b i p)) ≤ 4096) ((0, m, n, cs, j.toNat 1, j.ext (sC b) 0 (j.toNat 1))) (by first | (generalize @sC = x_sC; generalize @nS = x_nS; generalize @setS = x_setS; generalize @strsOf = x_strsOf; generalize @cutS = x_cutS; generalize @fitS = x_fitS; generalize @addS = x_addS; generalize @bumpS = x_bumpS; cbv; done) | fail) ?_ (fun ⟨p, m, n, cs, rn, rc⟩ hI => ?_))
    | (refine aw_lpj hj [(0, .keep), (2, .keep), (9, .keep), (10, .keep), (12, .keep), (18, .keep), (19, .keep), (20, .keep), (36, .keep), (37, .keep), (38, .keep)] [8, 9] (fun (⟨p, m, n, cs, rn, rc⟩ : Int × GM × Nat × (List C) × Nat × (List C)) => stOf 54 [(0, .one (.c (vI k))), (2, .one (.c ((C.sl (nS b) (sC b))))), (9, .one (.ptr 9 0)), (10, .one (.fn fnPut [8, 9])), (12, .one (.c (vS (j.gs (j.cell (sC a) (j.toNat i)))))), (18, .one (.c ((C.sl (nS a) (sC a))))), (19, .one (.c (vI (j.ofNat (nS a))))), (20, .one (.c (vI i))), (36, .one (.c (.sl rn rc))), (37, .one (.c (vI (j.ofNat rn)))), (38, .one (.c (vI p)))] [(8, .box [.map .str m]), (9, .box [.own strT n cs])]) (fun (⟨p, m, n, cs, rn, rc⟩ : Int × GM × Nat × (List C) × Nat × (List C)) => nS (rS k (sAt a i.toNat) b) - p.toNat) (fun (⟨p, m, n, cs, rn, rc⟩ : Int × GM × Nat × (List C) × Nat × (List C)) => 0 ≤ p ∧ p ≤ nS (rS k (sAt a i.toNat) b) ∧ rn = nS (rS k (sAt a i.toNat) b) ∧ rc = sC (rS k (sAt a i.toNat) b) ∧ n = nS (ddS (soFar k a b i p)) ∧ cs = sC (ddS (soFar k a b i p)) ∧ Seen m (ddS (soFar k a b i p)) (soFar k a b i p).length ∧ nS (ddS (soFar k a b i p)) ≤ 4096) ((0, m, n, cs, nS b, sC b)) (by first | (generalize @sC = x_sC; generalize @nS = x_nS; generalize @setS = x_setS; generalize @strsOf = x_strsOf; generalize @cutS = x_cutS; generalize @fitS = x_fitS; generalize @addS = x_addS; generalize @bumpS = x_bumpS; cbv; done) | fail) ?_ (fun ⟨p, m, n, cs, rn, rc⟩ hI => ?_)))
  all_goals (try (refine hrs _ _ ?_; rw [hj]; exact rS_one (by have q := ‹((gs (cellAt (sC a) i.toNat)).size : Int) ≥ k›; rw [gs_sC] at q; omega) (by omega)))
  all_goals (try (refine hrs _ _ ?_; rw [rS_no (.inr (by omega))]; exact ⟨rfl, rfl⟩))
  all_goals (try (refine hrs _ _ ?_; rw [rS_no (.inl (by have q := ‹¬ ((gs (cellAt (sC a) i.toNat)).size : Int) ≥ k›; rw [gs_sC] at q; omega))]; exact ⟨rfl, rfl⟩))
  all_goals (clear hrs)
  all_goals (obtain ⟨p1, p2, r1, r2, q3, q4, q5, q6⟩ := hI)
  all_goals (have e1 : strsOf cs = ddS (soFar k a b i p) := by rw [q4, strsOf_sC])
  all_goals (have hx : gs (cellAt (sC a) i.toNat) = sAt a i.toNat := gs_sC a _)
  all_goals (have hy : gs (cellAt rc p.toNat) = sAt (rS k (sAt a i.toNat) b) p.toNat := by rw [r2, gs_sC])
  all_goals (have hsx : (sAt a i.toNat).size ≤ 50 := hsa _ (sAt_mem a i i1 hia))
  all_goals (have hnext : p < nS (rS k (sAt a i.toNat) b) → addS (strsOf cs) (cutS (gs (cellAt (sC a) i.toNat) ++ gs (cellAt rc p.toNat)) k) = ddS (soFar k a b i (p + 1)) := fun h => by rw [e1, hx, hy, soFar_next (r := rS k (sAt a i.toNat) b) rfl p1 h, ddS_snoc])
  all_goals (have hcw : p < nS (rS k (sAt a i.toNat) b) → pc 51 [.v false [vI k], .v false [.sl 2 [vS (gs (cellAt (sC a) i.toNat)), vS (gs (cellAt rc p.toNat))]]] (ret1 (.st (vS (cutS (gs (cellAt (sC a) i.toNat) ++ gs (cellAt rc p.toNat)) k)))) := fun h => c_CatW (by rw [hx]; omega) (by rw [hy]; have := hsb _ (rS_mem _ (sAt_mem _ p p1 h)); omega))
  all_goals (have hfew : nS (ddS (soFar k a b i p)) ≤ 1000000 := by omega)
  all_goals (have hput : ∀ w, (std Try.prog T).pc fnPut [.v false [vS w], .root (.box [.map .str m]), .root (.box [.own strT n cs])] (ret1 (.st (vB (fitS (nS (addS (strsOf cs) w)))))) [.none, .box [.map .str (bumpS m w)], .box [.own strT (nS (addS (strsOf cs) w)) (sC (addS (strsOf cs) w))]] := fun w => c_putS q3 q4 q5 (Nat.le_trans (soFar_few (by omega) (by omega)) (by omega)) hfew)
  all_goals (have hbr : nS (rS k (sAt a i.toNat) b) ≤ 300 := Nat.le_trans rS_few hb)
  all_goals (have hrl : rc.length = nS (rS k (sAt a i.toNat) b) := by rw [r2, sC_len])
  all_goals (have hok : p < nS (rS k (sAt a i.toNat) b) → okK .str (cellAt rc p.toNat) := fun h => by rw [r2]; exact ok_sC (by rw [← nS_eq]; omega))
  all_goals (have hrow : ¬ p < nS (rS k (sAt a i.toNat) b) → soFar k a b i p = soFar k a b (i + 1) 0 := fun h => soFar_row i1 hia (by rw [rS_row]; exact h))
  all_goals (have hseen : p < nS (rS k (sAt a i.toNat) b) → Seen (bumpS m (cutS (gs (cellAt (sC a) i.toNat) ++ gs (cellAt rc p.toNat)) k)) (ddS (soFar k a b i (p + 1))) (soFar k a b i (p + 1)).length := fun h => by have q := seen_bump q5 (cutS (gs (cellAt (sC a) i.toNat) ++ gs (cellAt rc p.toNat)) k); rw [← e1, hnext h] at q; rw [show (soFar k a b i (p + 1)).length = (soFar k a b i p).length + 1 by rw [soFar_next (r := rS k (sAt a i.toNat) b) rfl p1 h]; simp]; exact q)
  all_goals (have hno : p < nS (rS k (sAt a i.toNat) b) → fitS (nS (addS (strsOf cs) (cutS (gs (cellAt (sC a) i.toNat) ++ gs (cellAt rc p.toNat)) k))) = false → rCat k a b = ⟨true, [(false, [.own strT 0 []]), (false, [.st (.val (.bool false))])]⟩ := fun h q => rCat_no (not_ok (l := soFar k a b i (p + 1)) (by rw [← hnext h]; exact q) (soFar_in i1 hia)))
  all_goals (have hin : p < nS (rS k (sAt a i.toNat) b) → fitS (nS (addS (strsOf cs) (cutS (gs (cellAt (sC a) i.toNat) ++ gs (cellAt rc p.toNat)) k))) = true → nS (ddS (soFar k a b i (p + 1))) ≤ 4096 := fun h q => by rw [hnext h] at q; unfold fitS at q; simpa using q)
  all_goals (
    generalize y_sC : @sC = x_sC at *
    generalize y_nS : @nS = x_nS at *
    generalize y_setS : @setS = x_setS at *
    generalize y_strsOf : @strsOf = x_strsOf at *
    generalize y_cutS : @cutS = x_cutS at *
    generalize y_fitS : @fitS = x_fitS at *
    generalize y_addS : @addS = x_addS at *
    generalize y_bumpS : @bumpS = x_bumpS at *
    (repeat' first | (refine aw_ret ⟨.inr rfl, ret_oknil hj strT (by cbv) ?_ ?_⟩) | (with_reducible refine tr_cut (fun h => ?_) (fun h => ?_) <;> (try simp (disch := omega) only [hj, std, cmpI, cmpB, satB, Bool.not_eq_true, Bool.not_eq_false, decide_eq_true_eq, decide_eq_false_iff_not, beq_iff_eq, bne_iff_ne, bne_eq_false_iff_eq, beq_eq_false_iff_ne, ne_eq, reduceCtorEq, not_true_eq_false, not_false_eq_true, pl0, if_true, cmpS_eq, cmpS_neq, Bool.not_eq_eq_eq_not, Bool.not_true, Bool.not_false, Bool.not_eq_true', add64, sub64] at h) <;> (try (exfalso; omega))) | (with_reducible refine tr_alt (fun h => ?_) ?_ <;> (try (exfalso; omega))) | (with_reducible refine tr_ob ?_ ?_) | (with_reducible refine tr_done ?_) | (refine aw_tr hj tok (bookC x_sC x_nS x_setS x_strsOf x_cutS x_fitS x_addS x_bumpS) (by cbv) ?_) | (refine aw_seq fun K hK => ?_) | (refine aw_tr1 hj tok (bookC x_sC x_nS x_setS x_strsOf x_cutS x_fitS x_addS x_bumpS) (by cbv) ?_) | (refine aw_condj (by cbv) (fun h => ?_) (fun h => ?_) <;> (try simp (disch := omega) only [hj, std, cmpI, cmpB, satB, Bool.not_eq_true, Bool.not_eq_false, decide_eq_true_eq, decide_eq_false_iff_not, beq_iff_eq, bne_iff_ne, bne_eq_false_iff_eq, beq_eq_false_iff_ne, ne_eq, reduceCtorEq, not_true_eq_false, not_false_eq_true, pl0, if_true, cmpS_eq, cmpS_neq, Bool.not_eq_eq_eq_not, Bool.not_true, Bool.not_false, Bool.not_eq_true', add64, sub64] at h) <;> (try (exfalso; omega))) | (refine aw_skip ?_) | (refine aw_block ?_) | (refine aw_exit ?_) | (refine aw_ret ⟨.inr rfl, ret_okj hj (by cbv) ?_ ?_⟩) | (refine aw_ret ?_) | (with_reducible refine th_n ?_) | (with_reducible refine th_r ?_) | (with_reducible refine th_x ?_) | (with_reducible refine blk_n ?_) | (with_reducible refine blk_r ?_) | (with_reducible refine blk_x ?_) | (with_reducible refine blk_y rfl ?_) | (refine ⟨.inr rfl, ret_okj hj (by cbv) ?_ ?_⟩) | (refine ⟨.inl rfl, ret_okj hj (by cbv) ?_ ?_⟩) | ((with_reducible refine ⟨(_, _, _, _, _, _, _), by cbv, ?_, ?_⟩)) | ((with_reducible refine ⟨(_, _, _, _, _, _), by cbv, ?_, ?_⟩)) | ((with_reducible refine ⟨(_, _, _, _, _), by cbv, ?_, ?_⟩)) | ((with_reducible refine ⟨(_, _, _, _), by cbv, ?_, ?_⟩)) | ((with_reducible refine ⟨(_, _, _), by cbv, ?_, ?_⟩)) | ((with_reducible refine ⟨(_, _), by cbv, ?_, ?_⟩)) | ((with_reducible refine ⟨_, by cbv, ?_, ?_⟩)) | (with_reducible apply_assumption -symm -exfalso only [*]))
    all_goals ((try subst y_sC); (try subst y_nS); (try subst y_setS); (try subst y_strsOf); (try subst y_cutS); (try subst y_fitS); (try subst y_addS); (try subst y_bumpS)))
  all_goals (try (repeat' first | with_reducible exact obl0 | with_reducible refine obl1 ?_ ?_))
  all_goals (try first | with_reducible exact True.intro | (refine ob_pc hj ?_; (try rw [hj]); first | exact hcw (by omega) | exact hput _) | (refine ob_le hj ?_; (first | omega | (simp only [hj, std]; split <;> omega) | (simp (disch := omega) only [hj, std, cmpI, cmpB, satB, add64, sub64, ite0, pl0, pl2, pl3, sb0, if_true, if_false, eq_self, hrl] <;> omega) | (simp (disch := omega) [hj, std, cmpI, cmpB, satB, add64, sub64, ite0, pl0, pl2, pl3, sb0, if_true, if_false, eq_self, hrl] <;> omega))) | (refine ob_lei hj ?_; (first | omega | (simp only [hj, std]; split <;> omega) | (simp (disch := omega) only [hj, std, cmpI, cmpB, satB, add64, sub64, ite0, pl0, pl2, pl3, sb0, if_true, if_false, eq_self, hrl] <;> omega) | (simp (disch := omega) [hj, std, cmpI, cmpB, satB, add64, sub64, ite0, pl0, pl2, pl3, sb0, if_true, if_false, eq_self, hrl] <;> omega))) | (refine ob_inb hj ?_; (first | omega | (simp only [hj, std]; split <;> omega) | (simp (disch := omega) only [hj, std, cmpI, cmpB, satB, add64, sub64, ite0, pl0, pl2, pl3, sb0, if_true, if_false, eq_self, hrl] <;> omega) | (simp (disch := omega) [hj, std, cmpI, cmpB, satB, add64, sub64, ite0, pl0, pl2, pl3, sb0, if_true, if_false, eq_self, hrl] <;> omega))) | (refine ob_pos hj ?_; (first | omega | (simp only [hj, std]; split <;> omega) | (simp (disch := omega) only [hj, std, cmpI, cmpB, satB, add64, sub64, ite0, pl0, pl2, pl3, sb0, if_true, if_false, eq_self, hrl] <;> omega) | (simp (disch := omega) [hj, std, cmpI, cmpB, satB, add64, sub64, ite0, pl0, pl2, pl3, sb0, if_true, if_false, eq_self, hrl] <;> omega))) | (refine ob_ne0 hj ?_; (first | omega | (simp only [hj, std]; split <;> omega) | (simp (disch := omega) only [hj, std, cmpI, cmpB, satB, add64, sub64, ite0, pl0, pl2, pl3, sb0, if_true, if_false, eq_self, hrl] <;> omega) | (simp (disch := omega) [hj, std, cmpI, cmpB, satB, add64, sub64, ite0, pl0, pl2, pl3, sb0, if_true, if_false, eq_self, hrl] <;> omega))) | (refine ob_eqb hj ?_; (first | rfl | first | omega | (simp only [hj, std]; split <;> omega) | (simp (disch := omega) only [hj, std, cmpI, cmpB, satB, add64, sub64, ite0, pl0, pl2, pl3, sb0, if_true, if_false, eq_self, hrl] <;> omega) | (simp (disch := omega) [hj, std, cmpI, cmpB, satB, add64, sub64, ite0, pl0, pl2, pl3, sb0, if_true, if_false, eq_self, hrl] <;> omega))) | ((refine ob_ok hj ?_; simp only [hj, std, ite0]; exact hok (by omega))) | ((refine ob_vals hj ?_; exact sC_vals _)) | ((exact hno (by omega) (by assumption))) | ((simp (disch := omega) only [hj, std, add64]; exact ⟨by omega, by omega, r1, r2, by rw [hnext (by omega)], by rw [hnext (by omega)], hseen (by omega), hin (by omega) (by assumption)⟩)) | ((simp (disch := omega) only [hj, std, add64]; have q := hrow (by omega); rw [← q]; exact ⟨by omega, by omega, q3, q4, q5, q6⟩)) | ((simp (disch := omega) only [hj, std, add64]; omega)) | (omega))
end Go.Proofs.Ytkkieddebnhpcaa.A

/- Sets of words: the laws WsetOf and WsetCats. -/
set_option linter.unusedSimpArgs false
set_option linter.unusedVariables false
set_option maxRecDepth 100000
set_option maxHeartbeats 4000000
namespace Go.Proofs.Ytkkieddebnhpcaa.A
open Go
def bookM (x_sC : List ByteArray → List C) (x_nS : List ByteArray → Nat) (x_hasS : List ByteArray → ByteArray → Bool) (x_setS : List ByteArray → List ByteArray) (x_strsOf : List C → List ByteArray) (x_isS : List ByteArray → Bool) (x_sameS : List ByteArray → List ByteArray → Bool) (x_fewS : List ByteArray → Bool) (x_prodS : Int → List ByteArray → List ByteArray → List ByteArray) (x_okC : Int → List ByteArray → List ByteArray → Bool) (x_catR : Int → List ByteArray → List ByteArray → List ByteArray) : Book := fun f xs => match f, xs with
  | 11, [.v false [.sl _ cs]] => some (ret1 (.st (vB (x_fewS (x_strsOf cs)))))
  | 19, [.v false [.sl _ cs]] => some (ret1 (.st (vB (x_isS (x_strsOf cs)))))
  | 12, [] => some (ret1 (.st (vB true)))
  | 13, [.v false [.sl _ cs]] => some (ret1 (.st ((C.sl (x_nS (x_setS (x_strsOf cs))) (x_sC (x_setS (x_strsOf cs)))))))
  | 16, [.v false [.val (.int .i64 k)], .v false [.sl _ ca], .v false [.sl _ cb]] => some (ret1 (.st ((C.sl (x_nS (x_setS (x_prodS k (x_strsOf ca) (x_strsOf cb)))) (x_sC (x_setS (x_prodS k (x_strsOf ca) (x_strsOf cb))))))))
  | 15, [.v false [.sl _ cs], .v false [.sl _ ds]] => some (ret1 (.st (vB (x_sameS (x_strsOf cs) (x_strsOf ds)))))
  | 21, [.v false [.sl _ cs], .v false [.val (.string w)]] => some (ret1 (.st (vB (x_hasS (x_strsOf cs) w))))
  | 18, [.v false [.sl _ cs]] => some (ret1 (.own strT (x_nS (x_setS (x_strsOf cs))) (x_sC (x_setS (x_strsOf cs)))))
  | 17, [.v false [.sl _ cs]] => some (ret1 (.st (vB (x_isS (x_strsOf cs)))))
  | 20, [.v false [.sl _ cs], .v false [.val (.string w)]] => some (ret1 (.st (vB (x_hasS (x_strsOf cs) w))))
  | 22, [.v false [.sl _ cs], .v false [.sl _ ds]] => some (ret1 (.st (vB (x_sameS (x_strsOf cs) (x_strsOf ds)))))
  | 14, [.v false [.val (.int .i64 k)], .v false [.sl _ ca], .v false [.sl _ cb]] => some (rets [(false, [.own strT (x_nS (x_catR k (x_strsOf ca) (x_strsOf cb))) (x_sC (x_catR k (x_strsOf ca) (x_strsOf cb)))]), (false, [.st (vB (x_okC k (x_strsOf ca) (x_strsOf cb)))])])
  | _, _ => none
section
variable {l m : List ByteArray} {n n2 : Nat} {cs ds : List C} {w : ByteArray} {k : Int}
theorem c_few (hn : n = nS l) (hc : cs = sC l) (hl : nS l < 4611686018427387904) : pc 11 [.v false [.sl n cs]] (ret1 (.st (vB (fewS (strsOf cs))))) := by
  subst hn; subst hc; rw [strsOf_sC]; exact ⟨enters Try.func11 (by kernel_rfl) (by kernel_rfl), pc_few l hl⟩
theorem c_is (hn : n = nS l) (hc : cs = sC l) (hl : nS l < 4611686018427387904) (h : ∀ s ∈ l, s.size ≤ 100) : pc 19 [.v false [.sl n cs]] (ret1 (.st (vB (isS (strsOf cs))))) := by
  subst hn; subst hc; rw [strsOf_sC]; exact ⟨enters Try.func19 (by kernel_rfl) (by kernel_rfl), pc_is19 l hl h⟩
theorem c_Same19 (hn : n = nS l) (hc : cs = sC l) (hn2 : n2 = nS m) (hc2 : ds = sC m) (hl : nS l < 4611686018427387904) (hm : nS m < 4611686018427387904) : pc 15 [.v false [.sl n cs], .v false [.sl n2 ds]] (ret1 (.st (vB (sameS (strsOf cs) (strsOf ds))))) := by
  subst hn; subst hc; subst hn2; subst hc2; rw [strsOf_sC, strsOf_sC]; exact ⟨enters Try.func15 (by kernel_rfl) (by kernel_rfl), pc_Same19 l m hl hm⟩
theorem c_SameP (hn : n = nS l) (hc : cs = sC l) (hn2 : n2 = nS m) (hc2 : ds = sC m) (hl : nS l < 4611686018427387904) (hm : nS m < 4611686018427387904) : pc 22 [.v false [.sl n cs], .v false [.sl n2 ds]] (ret1 (.st (vB (sameS (strsOf cs) (strsOf ds))))) := by
  subst hn; subst hc; subst hn2; subst hc2; rw [strsOf_sC, strsOf_sC]; exact ⟨enters Try.func22 (by kernel_rfl) (by kernel_rfl), pc_SameP l m hl hm⟩
theorem c_HasR (hn : n = nS l) (hc : cs = sC l) (hl : nS l < 4611686018427387904) : pc 21 [.v false [.sl n cs], .v false [vS w]] (ret1 (.st (vB (hasS (strsOf cs) w)))) := by
  subst hn; subst hc; exact c_Has19 hl
theorem c_HasP (hn : n = nS l) (hc : cs = sC l) (hl : nS l < 4611686018427387904) : pc 20 [.v false [.sl n cs], .v false [vS w]] (ret1 (.st (vB (hasS (strsOf cs) w)))) := by
  subst hn; subst hc; rw [strsOf_sC]; exact ⟨enters Try.func20 (by kernel_rfl) (by kernel_rfl), pc_Has l w hl⟩
theorem c_Is (hn : n = nS l) (hc : cs = sC l) (hl : nS l < 4611686018427387904) : pc 17 [.v false [.sl n cs]] (ret1 (.st (vB (isS (strsOf cs))))) := by
  subst hn; subst hc; rw [strsOf_sC]; exact ⟨enters Try.func17 (by kernel_rfl) (by kernel_rfl), pc_Is l hl⟩
theorem c_Cat19 (hn : n = nS l) (hc : cs = sC l) (hn2 : n2 = nS m) (hc2 : ds = sC m) (ha : nS l ≤ 300) (hb : nS m ≤ 300) (hsa : ∀ s ∈ l, s.size ≤ 50) (hsb : ∀ s ∈ m, s.size ≤ 50) : pc 16 [.v false [vI k], .v false [.sl n cs], .v false [.sl n2 ds]] (ret1 (.st ((C.sl (nS (setS (prodS k (strsOf cs) (strsOf ds)))) (sC (setS (prodS k (strsOf cs) (strsOf ds)))))))) := by
  subst hn; subst hc; subst hn2; subst hc2; rw [strsOf_sC, strsOf_sC]; exact ⟨enters Try.func16 (by kernel_rfl) (by kernel_rfl), pc_Cat19 k l m ha hb hsa hsb⟩
theorem c_CatP (hn : n = nS l) (hc : cs = sC l) (hn2 : n2 = nS m) (hc2 : ds = sC m) (ha : nS l ≤ 300) (hb : nS m ≤ 300) (hsa : ∀ s ∈ l, s.size ≤ 50) (hsb : ∀ s ∈ m, s.size ≤ 50) : pc 14 [.v false [vI k], .v false [.sl n cs], .v false [.sl n2 ds]] (rets [(false, [.own strT (nS (catR k (strsOf cs) (strsOf ds))) (sC (catR k (strsOf cs) (strsOf ds)))]), (false, [.st (vB (okC k (strsOf cs) (strsOf ds)))])]) := by
  subst hn; subst hc; subst hn2; subst hc2; rw [strsOf_sC, strsOf_sC]; exact ⟨enters Try.func14 (by kernel_rfl) (by kernel_rfl), pc_CatP k l m ha hb hsa hsb⟩
end
theorem okC_small {k : Int} {a b : List ByteArray} (ha : nS a ≤ 60) (hb : nS b ≤ 60) : okC k a b = true := by
  unfold okC
  rw [nS_eq] at ha hb
  have h1 := set_few (l := prodS k a b)
  rw [prod_len] at h1
  have h2 : a.length * b.length ≤ 60 * 60 := Nat.mul_le_mul ha hb
  simp only [decide_eq_true_eq]; omega
theorem catR_ok {k : Int} {a b : List ByteArray} (h : okC k a b = true) : catR k a b = setS (prodS k a b) := by unfold catR; rw [if_pos h]
theorem set_few60 {l : List ByteArray} (h : nS l ≤ 60 ∧ ∀ s ∈ l, s.size ≤ 20) : nS (setS l) ≤ 60 ∧ ∀ s ∈ setS l, s.size ≤ 20 := by
  refine ⟨?_, fun s hs => h.2 s (mem_setS.1 hs)⟩
  have := set_few (l := l)
  rw [nS_eq] at h ⊢
  omega
/-- the example -/
def exA : List ByteArray := [⟨⟨[97]⟩⟩, ⟨⟨[97, 98]⟩⟩]
def exB : List ByteArray := [⟨⟨[]⟩⟩, ⟨⟨[98]⟩⟩]
theorem ex_ok : okC 2 exA exB = true := okC_small (by decide) (by decide)
theorem ex_cat : catR 2 exA exB = exA := by rw [catR_ok ex_ok]; decide +kernel
theorem pc_awake : PC Try.prog T 12 [] (ret1 (.st (vB true))) [] := by
  refine pc_of tok Try.func12 rfl (by rfl) ?_
  obtain ⟨j, hj⟩ : ∃ j : J, j = std Try.prog T := ⟨_, rfl⟩
  have hm : Try.prog.follows .mixedOrders = true := by kernel_rfl
  have h1 : catR 2 (strsOf [vS ⟨⟨[97]⟩⟩, vS ⟨⟨[97, 98]⟩⟩]) (strsOf [vS ⟨⟨[]⟩⟩, vS ⟨⟨[98]⟩⟩]) = exA := ex_cat
  have h2 : okC 2 (strsOf [vS ⟨⟨[97]⟩⟩, vS ⟨⟨[97, 98]⟩⟩]) (strsOf [vS ⟨⟨[]⟩⟩, vS ⟨⟨[98]⟩⟩]) = true := ex_ok
  have h3 : gs (cellAt (sC exA) 0) = ⟨⟨[97]⟩⟩ := rfl
  have h4 : gs (cellAt (sC exA) 1) = ⟨⟨[97, 98]⟩⟩ := rfl
  have h5 : nS exA = 2 := rfl
  generalize y_sC : @sC = x_sC at *
  generalize y_nS : @nS = x_nS at *
  generalize y_hasS : @hasS = x_hasS at *
  generalize y_setS : @setS = x_setS at *
  generalize y_strsOf : @strsOf = x_strsOf at *
  generalize y_isS : @isS = x_isS at *
  generalize y_sameS : @sameS = x_sameS at *
  generalize y_fewS : @fewS = x_fewS at *
  generalize y_prodS : @prodS = x_prodS at *
  generalize y_okC : @okC = x_okC at *
  generalize y_catR : @catR = x_catR at *
  (repeat' first | (with_reducible refine tr_cut (fun h => ?_) (fun h => ?_) <;> (try simp (disch := omega) only [hj, std, cmpI, cmpB, satB, Bool.not_eq_true, Bool.not_eq_false, decide_eq_true_eq, decide_eq_false_iff_not, beq_iff_eq, bne_iff_ne, bne_eq_false_iff_eq, beq_eq_false_iff_ne, ne_eq, reduceCtorEq, not_true_eq_false, not_false_eq_true, pl0, if_true, cmpS_eq, cmpS_neq, Bool.not_eq_eq_eq_not, Bool.not_true, Bool.not_false, Bool.not_eq_true', h1, h2, h3, h4, h5, add64, sub64] at h) <;> (try (exfalso; omega))) | (with_reducible refine tr_alt (fun h => ?_) ?_ <;> (try (exfalso; omega))) | (with_reducible refine tr_ob ?_ ?_) | (with_reducible refine tr_done ?_) | (refine aw_tr hj tok (bookM x_sC x_nS x_hasS x_setS x_strsOf x_isS x_sameS x_fewS x_prodS x_okC x_catR) (by cbv) ?_) | (refine aw_seq fun K hK => ?_) | (refine aw_tr1 hj tok (bookM x_sC x_nS x_hasS x_setS x_strsOf x_isS x_sameS x_fewS x_prodS x_okC x_catR) (by cbv) ?_) | (refine aw_condj (by cbv) (fun h => ?_) (fun h => ?_) <;> (try simp (disch := omega) only [hj, std, cmpI, cmpB, satB, Bool.not_eq_true, Bool.not_eq_false, decide_eq_true_eq, decide_eq_false_iff_not, beq_iff_eq, bne_iff_ne, bne_eq_false_iff_eq, beq_eq_false_iff_ne, ne_eq, reduceCtorEq, not_true_eq_false, not_false_eq_true, pl0, if_true, cmpS_eq, cmpS_neq, Bool.not_eq_eq_eq_not, Bool.not_true, Bool.not_false, Bool.not_eq_true', h1, h2, h3, h4, h5, add64, sub64] at h) <;> (try (exfalso; omega))) | (refine aw_skip ?_) | (refine aw_block ?_) | (refine aw_exit ?_) | (refine aw_ret ⟨.inr rfl, ret_okj hj (by cbv) ?_ ?_⟩) | (refine aw_ret ?_) | (with_reducible refine th_n ?_) | (with_reducible refine th_r ?_) | (with_reducible refine th_x ?_) | (with_reducible refine blk_n ?_) | (with_reducible refine blk_r ?_) | (with_reducible refine blk_x ?_) | (with_reducible refine blk_y rfl ?_) | (refine ⟨.inr rfl, ret_okj hj (by cbv) ?_ ?_⟩) | (refine ⟨.inl rfl, ret_okj hj (by cbv) ?_ ?_⟩) | ((with_reducible refine ⟨(_, _, _, _, _, _, _), by cbv, ?_, ?_⟩)) | ((with_reducible refine ⟨(_, _, _, _, _, _), by cbv, ?_, ?_⟩)) | ((with_reducible refine ⟨(_, _, _, _, _), by cbv, ?_, ?_⟩)) | ((with_reducible refine ⟨(_, _, _, _), by cbv, ?_, ?_⟩)) | ((with_reducible refine ⟨(_, _, _), by cbv, ?_, ?_⟩)) | ((with_reducible refine ⟨(_, _), by cbv, ?_, ?_⟩)) | ((with_reducible refine ⟨_, by cbv, ?_, ?_⟩)) | (with_reducible apply_assumption -symm -exfalso only [*]))
  all_goals ((try subst y_sC); (try subst y_nS); (try subst y_hasS); (try subst y_setS); (try subst y_strsOf); (try subst y_isS); (try subst y_sameS); (try subst y_fewS); (try subst y_prodS); (try subst y_okC); (try subst y_catR))
  all_goals (try (repeat' first | with_reducible exact obl0 | with_reducible refine obl1 ?_ ?_))
  all_goals (try first | with_reducible exact True.intro | (refine ob_pc hj ?_; (try rw [hj]); first | exact c_CatP (l := exA) (m := exB) rfl rfl rfl rfl (by decide) (by decide) (by decide) (by decide)) | (refine ob_le hj ?_; (first | omega | (simp only [hj, std]; split <;> omega) | (simp (disch := omega) only [hj, std, cmpI, cmpB, satB, add64, sub64, ite0, pl0, pl2, pl3, sb0, if_true, if_false, eq_self, h1, h2, h3, h4, h5, sC_len] <;> omega) | (simp (disch := omega) [hj, std, cmpI, cmpB, satB, add64, sub64, ite0, pl0, pl2, pl3, sb0, if_true, if_false, eq_self, h1, h2, h3, h4, h5, sC_len] <;> omega))) | (refine ob_lei hj ?_; (first | omega | (simp only [hj, std]; split <;> omega) | (simp (disch := omega) only [hj, std, cmpI, cmpB, satB, add64, sub64, ite0, pl0, pl2, pl3, sb0, if_true, if_false, eq_self, h1, h2, h3, h4, h5, sC_len] <;> omega) | (simp (disch := omega) [hj, std, cmpI, cmpB, satB, add64, sub64, ite0, pl0, pl2, pl3, sb0, if_true, if_false, eq_self, h1, h2, h3, h4, h5, sC_len] <;> omega))) | (refine ob_inb hj ?_; (first | omega | (simp only [hj, std]; split <;> omega) | (simp (disch := omega) only [hj, std, cmpI, cmpB, satB, add64, sub64, ite0, pl0, pl2, pl3, sb0, if_true, if_false, eq_self, h1, h2, h3, h4, h5, sC_len] <;> omega) | (simp (disch := omega) [hj, std, cmpI, cmpB, satB, add64, sub64, ite0, pl0, pl2, pl3, sb0, if_true, if_false, eq_self, h1, h2, h3, h4, h5, sC_len] <;> omega))) | (refine ob_pos hj ?_; (first | omega | (simp only [hj, std]; split <;> omega) | (simp (disch := omega) only [hj, std, cmpI, cmpB, satB, add64, sub64, ite0, pl0, pl2, pl3, sb0, if_true, if_false, eq_self, h1, h2, h3, h4, h5, sC_len] <;> omega) | (simp (disch := omega) [hj, std, cmpI, cmpB, satB, add64, sub64, ite0, pl0, pl2, pl3, sb0, if_true, if_false, eq_self, h1, h2, h3, h4, h5, sC_len] <;> omega))) | (refine ob_ne0 hj ?_; (first | omega | (simp only [hj, std]; split <;> omega) | (simp (disch := omega) only [hj, std, cmpI, cmpB, satB, add64, sub64, ite0, pl0, pl2, pl3, sb0, if_true, if_false, eq_self, h1, h2, h3, h4, h5, sC_len] <;> omega) | (simp (disch := omega) [hj, std, cmpI, cmpB, satB, add64, sub64, ite0, pl0, pl2, pl3, sb0, if_true, if_false, eq_self, h1, h2, h3, h4, h5, sC_len] <;> omega))) | (refine ob_eqb hj ?_; (first | rfl | first | omega | (simp only [hj, std]; split <;> omega) | (simp (disch := omega) only [hj, std, cmpI, cmpB, satB, add64, sub64, ite0, pl0, pl2, pl3, sb0, if_true, if_false, eq_self, h1, h2, h3, h4, h5, sC_len] <;> omega) | (simp (disch := omega) [hj, std, cmpI, cmpB, satB, add64, sub64, ite0, pl0, pl2, pl3, sb0, if_true, if_false, eq_self, h1, h2, h3, h4, h5, sC_len] <;> omega))) | (exact rfl) | ((refine ob_vals hj ?_; exact sC_vals _)) | ((refine ob_ok hj ?_; rw [hj]; show okK .str (cellAt (sC (catR 2 exA exB)) _); rw [ex_cat]; exact ⟨_, rfl⟩)) | ((exfalso; have q := ‹¬ gs (cellAt (sC exA) _) = _›; exact q rfl)) | ((refine r1b ?_; rw [hj]; show true = cmpS .eql (gs (cellAt (sC (catR 2 exA exB)) 1)) _; rw [ex_cat]; decide +kernel)))
theorem c_awake : pc 12 [] (ret1 (.st (vB true))) := ⟨enters Try.func12 (by kernel_rfl) (by kernel_rfl), pc_awake⟩
end Go.Proofs.Ytkkieddebnhpcaa.A
