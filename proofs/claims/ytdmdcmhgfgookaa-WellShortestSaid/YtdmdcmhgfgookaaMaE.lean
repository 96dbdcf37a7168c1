import Derived.Test.YtdmdcmhgfgookaaMaD
/- Grammars that are well made: the shortest strings stand after as many rounds as there are nonterminals. -/
set_option linter.unusedSimpArgs false
set_option linter.unusedVariables false
set_option maxRecDepth 100000
set_option maxHeartbeats 4000000
namespace Go.Proofs.Ytdmdcmhgfgookaa.A
open Go
/-- a length as a number: 2000000 where there is none -/
def cv (x : Int) : Nat := if x < 0 then 2000000 else x.toNat
def cst (f : Nat → Nat) : List Int → Nat → Nat
  | [], n => if 1000000 < n then 1000000 else n
  | s :: R, n => if s < 0 then cst f R (n + 1) else if 2000000 ≤ f s.toNat then 2000000 else cst f R (n + f s.toNat)
def InR (f : Nat → Nat) : Prop := ∀ k, f k ≤ 1000000 ∨ f k = 2000000
theorem cst_le (f : Nat → Nat) : ∀ (R : List Int) (n : Nat), cst f R n ≤ 1000000 ∨ cst f R n = 2000000 := by
  intro R
  induction R with
  | nil => intro n; unfold cst; split <;> omega
  | cons s R ih =>
    intro n
    unfold cst
    split
    · exact ih _
    · split
      · exact .inr rfl
      · exact ih _
theorem cst_mono {f g : Nat → Nat} (h : ∀ k, f k ≤ g k) : ∀ (R : List Int) (n m : Nat), n ≤ m → cst f R n ≤ cst g R m := by
  intro R
  induction R with
  | nil => intro n m hn; unfold cst; split <;> split <;> omega
  | cons s R ih =>
    intro n m hn
    unfold cst
    by_cases h1 : s < 0
    · rw [if_pos h1, if_pos h1]; exact ih _ _ (by omega)
    · rw [if_neg h1, if_neg h1]
      have := h s.toNat
      by_cases h2 : 2000000 ≤ g s.toNat
      · rw [if_pos h2]
        have h3 : ∀ R n, cst f R n ≤ 2000000 := fun R n => by rcases cst_le f R n with h | h <;> omega
        split
        · omega
        · exact h3 _ _
      · rw [if_neg h2, if_neg (by omega)]
        exact ih _ _ (by omega)
theorem cst_ge (f : Nat → Nat) : ∀ (R : List Int) (n : Nat), n ≤ 1000000 → n ≤ cst f R n := by
  intro R
  induction R with
  | nil => intro n hn; unfold cst; split <;> omega
  | cons s R ih =>
    intro n hn
    unfold cst
    split
    · have h1 := cst_mono (f := f) (g := f) (fun _ => Nat.le_refl _) R n (n + 1) (by omega)
      exact Nat.le_trans (ih n hn) h1
    · split
      · omega
      · have h1 := cst_mono (f := f) (g := f) (fun _ => Nat.le_refl _) R n (n + f s.toNat) (by omega)
        exact Nat.le_trans (ih n hn) h1
theorem cst_super {f : Nat → Nat} (hf : InR f) : ∀ (R : List Int) (n : Nat) (s : Int), s ∈ R → 0 ≤ s → f s.toNat ≤ cst f R n := by
  intro R
  induction R with
  | nil => intro n s hs; cases hs
  | cons t R ih =>
    intro n s hs h0
    rcases List.mem_cons.1 hs with rfl | hs
    · unfold cst
      rw [if_neg (by omega)]
      split
      · rcases hf s.toNat with h | h <;> omega
      · have h1 := cst_ge f R (f s.toNat) (by rcases hf s.toNat with h | h <;> omega)
        have h2 := cst_mono (f := f) (g := f) (fun _ => Nat.le_refl _) R (f s.toNat) (n + f s.toNat) (by omega)
        exact Nat.le_trans h1 h2
    · unfold cst
      split
      · exact ih _ s hs h0
      · split
        · rcases hf s.toNat with h | h <;> omega
        · exact ih _ s hs h0
theorem cst_same {f g : Nat → Nat} : ∀ (R : List Int) (n : Nat), (∀ s ∈ R, 0 ≤ s → f s.toNat = g s.toNat) → cst f R n = cst g R n := by
  intro R
  induction R with
  | nil => intro n _; rfl
  | cons s R ih =>
    intro n h
    have hr : ∀ s ∈ R, 0 ≤ s → f s.toNat = g s.toNat := fun x hx => h x (List.mem_cons_of_mem _ hx)
    unfold cst
    split
    · exact ih _ hr
    · rw [h s (List.mem_cons_self ..) (by omega)]
      split
      · rfl
      · exact ih _ hr
/-- one rule after the other -/
def bst (f : Nat → Nat) (i : Nat) (rs : List Rl) (m : Nat) : Nat := rs.foldl (fun m r => if r.1.toNat = i ∧ cst f r.2 0 < m then cst f r.2 0 else m) m
def bkk (rs : List Rl) : Nat → Nat → Nat
  | 0 => fun _ => 2000000
  | k + 1 => fun i => bst (bkk rs k) i rs (bkk rs k i)
theorem bst_le (f : Nat → Nat) (i : Nat) : ∀ (rs : List Rl) (m : Nat), bst f i rs m ≤ m := by
  intro rs
  induction rs with
  | nil => intro m; exact Nat.le_refl _
  | cons r rs ih =>
    intro m
    refine Nat.le_trans (ih _) ?_
    show (if r.1.toNat = i ∧ cst f r.2 0 < m then cst f r.2 0 else m) ≤ m
    split <;> omega
theorem bst_rule {f : Nat → Nat} {i : Nat} : ∀ (rs : List Rl) (m : Nat) (r : Rl), r ∈ rs → r.1.toNat = i → bst f i rs m ≤ cst f r.2 0 := by
  intro rs
  induction rs with
  | nil => intro m r hr; cases hr
  | cons t rs ih =>
    intro m r hr hi
    rcases List.mem_cons.1 hr with rfl | hr
    · refine Nat.le_trans (bst_le f i rs _) ?_
      show (if r.1.toNat = i ∧ cst f r.2 0 < m then cst f r.2 0 else m) ≤ _
      split <;> omega
    · exact ih _ r hr hi
theorem bst_cases (f : Nat → Nat) (i : Nat) : ∀ (rs : List Rl) (m : Nat), bst f i rs m = m ∨ ∃ r ∈ rs, r.1.toNat = i ∧ bst f i rs m = cst f r.2 0 := by
  intro rs
  induction rs with
  | nil => intro m; exact .inl rfl
  | cons t rs ih =>
    intro m
    rcases ih (if t.1.toNat = i ∧ cst f t.2 0 < m then cst f t.2 0 else m) with h | ⟨r, hr, h1, h2⟩
    · by_cases h1 : t.1.toNat = i ∧ cst f t.2 0 < m
      · refine .inr ⟨t, List.mem_cons_self .., h1.1, ?_⟩
        show bst f i rs _ = _
        rw [h, if_pos h1]
      · refine .inl ?_
        show bst f i rs _ = _
        rw [h, if_neg h1]
    · exact .inr ⟨r, List.mem_cons_of_mem _ hr, h1, h2⟩
theorem bkk_in (rs : List Rl) : ∀ k, InR (bkk rs k) := by
  intro k
  induction k with
  | zero => intro i; exact .inr rfl
  | succ k ih =>
    intro i
    show bst (bkk rs k) i rs (bkk rs k i) ≤ _ ∨ bst (bkk rs k) i rs (bkk rs k i) = _
    rcases bst_cases (bkk rs k) i rs (bkk rs k i) with h | ⟨r, _, _, h⟩
    · rw [h]; exact ih i
    · rw [h]; exact cst_le _ _ _
theorem bkk_le (rs : List Rl) (k i : Nat) : bkk rs (k + 1) i ≤ bkk rs k i := bst_le _ _ _ _
theorem nodup_le : ∀ (N : Nat) (l : List Nat), l.Nodup → (∀ c ∈ l, c < N) → l.length ≤ N := by
  intro N
  induction N with
  | zero =>
    intro l _ h
    cases l with
    | nil => exact Nat.le_refl _
    | cons c l => exact absurd (h c (List.mem_cons_self ..)) (by omega)
  | succ N ih =>
    intro l hl h
    have h1 := ih (l.erase N) (hl.erase N) (fun c hc => by
      have h2 := (hl.mem_erase_iff).1 hc
      have h3 := h c h2.2
      omega)
    rw [List.length_erase] at h1
    split at h1 <;> omega
/-- who turns in a round got it from somebody who turned in the round before -/
theorem bkk_chain {rs : List Rl} {N : Nat} (hr : ∀ r ∈ rs, r.1.toNat < N) : ∀ (k i : Nat), bkk rs (k + 1) i < bkk rs k i → ∃ l : List Nat, l.length = k + 1 ∧ l.Nodup ∧ (∀ c ∈ l, c < N) ∧ ∀ c ∈ l, bkk rs (k + 1) c ≤ bkk rs (k + 1) i := by
  intro k
  induction k with
  | zero =>
    intro i h
    rcases bst_cases (bkk rs 0) i rs (bkk rs 0 i) with h1 | ⟨r, h2, h3, _⟩
    · exact absurd h (by show ¬ bst (bkk rs 0) i rs (bkk rs 0 i) < _; omega)
    · refine ⟨[i], rfl, by simp, fun c hc => ?_, fun c hc => ?_⟩
      · rw [List.mem_singleton.1 hc, ← h3]; exact hr r h2
      · rw [List.mem_singleton.1 hc]; exact Nat.le_refl _
  | succ k ih =>
    intro i h
    rcases bst_cases (bkk rs (k + 1)) i rs (bkk rs (k + 1) i) with h1 | ⟨r, h2, h3, h4⟩
    · exact absurd h (by show ¬ bst (bkk rs (k + 1)) i rs (bkk rs (k + 1) i) < _; omega)
    · have h4' : bkk rs (k + 1 + 1) i = cst (bkk rs (k + 1)) r.2 0 := h4
      have h5 : ∃ s ∈ r.2, 0 ≤ s ∧ bkk rs (k + 1) s.toNat < bkk rs k s.toNat := Classical.byContradiction fun hn => by
        have h6 : cst (bkk rs (k + 1)) r.2 0 = cst (bkk rs k) r.2 0 := cst_same _ _ fun s hs h0 => by
          have h7 := bkk_le rs k s.toNat
          have h8 : ¬ bkk rs (k + 1) s.toNat < bkk rs k s.toNat := fun hh => hn ⟨s, hs, h0, hh⟩
          omega
        have h7 : bkk rs (k + 1) i ≤ cst (bkk rs k) r.2 0 := bst_rule rs _ r h2 h3
        omega
      obtain ⟨s, hs, h0, h6⟩ := h5
      have h7 : bkk rs (k + 1) s.toNat ≤ bkk rs (k + 1 + 1) i := by rw [h4']; exact cst_super (bkk_in rs (k + 1)) _ _ s hs h0
      obtain ⟨l, l1, l2, l3, l4⟩ := ih s.toNat h6
      refine ⟨i :: l, by rw [List.length_cons, l1], List.nodup_cons.2 ⟨fun hi => ?_, l2⟩, fun c hc => ?_, fun c hc => ?_⟩
      · have := l4 i hi; omega
      · rcases List.mem_cons.1 hc with rfl | hc
        · rw [← h3]; exact hr r h2
        · exact l3 c hc
      · rcases List.mem_cons.1 hc with rfl | hc
        · exact Nat.le_refl _
        · have h8 := l4 c hc
          have h9 := bkk_le rs (k + 1) c
          omega
theorem bkk_fix {rs : List Rl} {N : Nat} (hr : ∀ r ∈ rs, r.1.toNat < N) (i : Nat) : bkk rs (N + 1) i = bkk rs N i := by
  have h1 := bkk_le rs N i
  have h2 : ¬ bkk rs (N + 1) i < bkk rs N i := fun h => by
    obtain ⟨l, l1, l2, l3, _⟩ := bkk_chain hr N i h
    have := nodup_le N l l2 l3
    omega
  omega
theorem bkk_post {rs : List Rl} {N : Nat} (hr : ∀ r ∈ rs, r.1.toNat < N) {r : Rl} (h : r ∈ rs) : bkk rs N r.1.toNat ≤ cst (bkk rs N) r.2 0 := by
  rw [← bkk_fix hr]; exact bst_rule rs _ r h rfl
/-! the program's rounds -/
def cvs (sh : List Int) (k : Nat) : Nat := cv (iAt sh k)
theorem sum_cst {sh : List Int} (hb : ∀ s ∈ sh, s ≤ 1000000) : ∀ (R : List Int) (n : Int), 0 ≤ n → (∀ s ∈ R, s < sh.length) → cv (sumGo sh R n) = cst (cvs sh) R n.toNat := by
  intro R
  induction R with
  | nil => intro n h0 _; unfold sumGo cst cv; split <;> split <;> split <;> omega
  | cons s R ih =>
    intro n h0 hs
    have hr : ∀ s ∈ R, s < sh.length := fun x hx => hs x (List.mem_cons_of_mem _ hx)
    unfold sumGo cst
    by_cases h1 : s < 0
    · rw [if_pos h1, if_pos h1, ih _ (by omega) hr]; congr 1; omega
    · have hl := hs s (List.mem_cons_self ..)
      have h3 : iAt sh s.toNat ≤ 1000000 := hb _ (iAt_mem sh s (by omega) (by rw [nI_eq]; exact hl))
      rw [if_neg h1, if_neg h1]
      by_cases h2 : iAt sh s.toNat < 0
      · have e : cvs sh s.toNat = 2000000 := by unfold cvs cv; rw [if_pos h2]
        rw [if_pos h2, if_pos (by rw [e]; exact Nat.le_refl _)]; rfl
      · have e : cvs sh s.toNat = (iAt sh s.toNat).toNat := by unfold cvs cv; rw [if_neg h2]
        rw [if_neg h2, if_neg (by rw [e]; omega), ih _ (by omega) hr, e]; congr 1; omega
theorem iAt_set {l : List Int} {k i : Nat} {v : Int} (h : k < l.length) : iAt (l.set k v) i = if k = i then v else iAt l i := by
  by_cases e : k = i
  · subst e; rw [if_pos rfl, iAt, List.getD_eq_getElem?_getD, List.getElem?_set_self h]; rfl
  · rw [if_neg e, iAt, iAt, List.getD_eq_getElem?_getD, List.getD_eq_getElem?_getD, List.getElem?_set_ne e]
structure OkS (N : Nat) (sh : List Int) : Prop where
  len : sh.length = N
  le : ∀ s ∈ sh, s ≤ 1000000
structure OkR (N : Nat) (r : Rl) : Prop where
  l0 : 0 ≤ r.1
  l1 : r.1 < N
  s : ∀ s ∈ r.2, s < N
theorem OkS.step {N : Nat} {sh : List Int} (h : OkS N sh) (r : Rl) : OkS N (stepS sh r) := ⟨by rw [stepS_len, h.len], stepS_le h.le r⟩
/-- a step: the left one's number gets as small as its rule's -/
theorem step_cv {N : Nat} {sh : List Int} {r : Rl} (h : OkS N sh) (hr : OkR N r) (i : Nat) : cvs (stepS sh r) i = if r.1.toNat = i ∧ cst (cvs sh) r.2 0 < cvs sh i then cst (cvs sh) r.2 0 else cvs sh i := by
  have hl := h.len
  have h0 := hr.l0; have h1 := hr.l1
  have hs := sum_cst h.le r.2 0 (by omega) (fun s hs => by rw [hl]; exact hr.s s hs)
  rw [show (0 : Int).toNat = 0 from rfl] at hs
  have hm : iAt sh r.1.toNat ≤ 1000000 := h.le _ (iAt_mem sh r.1 h0 (by rw [nI_eq]; omega))
  have hs2 : sumGo sh r.2 0 ≤ 1000000 := sumGo_le _ _ _
  unfold stepS sumG
  rw [← hs]
  generalize sumGo sh r.2 0 = v at *
  by_cases hc : v ≥ 0 ∧ (iAt sh r.1.toNat < 0 ∨ v < iAt sh r.1.toNat)
  · rw [if_pos hc]
    by_cases e : r.1.toNat = i
    · subst e
      have e1 : cvs (sh.set r.1.toNat v) r.1.toNat = cv v := by unfold cvs; rw [iAt_set (by omega), if_pos rfl]
      have key : cv v < cvs sh r.1.toNat := by
        unfold cvs cv
        rw [if_neg (by omega)]
        split <;> omega
      rw [e1, if_pos ⟨rfl, key⟩]
    · rw [if_neg (fun hh => e hh.1)]
      unfold cvs; rw [iAt_set (by omega), if_neg e]
  · rw [if_neg hc, if_neg]
    rintro ⟨e, h3⟩
    subst e
    unfold cvs cv at h3
    split at h3 <;> split at h3 <;> omega
theorem pass_ok {N : Nat} : ∀ (rs : List Rl) {sh : List Int}, OkS N sh → OkS N (rs.foldl stepS sh) := by
  intro rs
  induction rs with
  | nil => intro sh h; exact h
  | cons r rs ih => intro sh h; exact ih (h.step r)
theorem pass_down {N : Nat} : ∀ (rs : List Rl) {sh : List Int}, OkS N sh → (∀ r ∈ rs, OkR N r) → ∀ i, cvs (rs.foldl stepS sh) i ≤ cvs sh i := by
  intro rs
  induction rs with
  | nil => intro sh _ _ i; exact Nat.le_refl _
  | cons r rs ih =>
    intro sh h hr i
    refine Nat.le_trans (ih (h.step r) (fun x hx => hr x (List.mem_cons_of_mem _ hx)) i) ?_
    rw [step_cv h (hr r (List.mem_cons_self ..))]
    split <;> omega
/-- not below a number that no rule makes smaller -/
theorem pass_low {N : Nat} {f : Nat → Nat} : ∀ (rs : List Rl) {sh : List Int}, OkS N sh → (∀ r ∈ rs, OkR N r) → (∀ r ∈ rs, f r.1.toNat ≤ cst f r.2 0) → (∀ i, f i ≤ cvs sh i) → ∀ i, f i ≤ cvs (rs.foldl stepS sh) i := by
  intro rs
  induction rs with
  | nil => intro sh _ _ _ hf i; exact hf i
  | cons r rs ih =>
    intro sh h hr hp hf
    refine ih (h.step r) (fun x hx => hr x (List.mem_cons_of_mem _ hx)) (fun x hx => hp x (List.mem_cons_of_mem _ hx)) fun i => ?_
    rw [step_cv h (hr r (List.mem_cons_self ..))]
    split
    · rename_i hh
      rw [← hh.1]
      exact Nat.le_trans (hp r (List.mem_cons_self ..)) (cst_mono hf _ _ _ (Nat.le_refl _))
    · exact hf i
/-- as small as each rule of the round makes it -/
theorem pass_up {N : Nat} {f : Nat → Nat} : ∀ (rs : List Rl) {sh : List Int}, OkS N sh → (∀ r ∈ rs, OkR N r) → (∀ i, cvs sh i ≤ f i) → ∀ r ∈ rs, cvs (rs.foldl stepS sh) r.1.toNat ≤ cst f r.2 0 := by
  intro rs
  induction rs with
  | nil => intro sh _ _ _ r hr; cases hr
  | cons t rs ih =>
    intro sh h hr hf r hm
    have hr2 : ∀ r ∈ rs, OkR N r := fun x hx => hr x (List.mem_cons_of_mem _ hx)
    have hf2 : ∀ i, cvs (stepS sh t) i ≤ f i := fun i => by
      have := hf i
      rw [step_cv h (hr t (List.mem_cons_self ..))]
      split <;> omega
    rcases List.mem_cons.1 hm with rfl | hm
    · refine Nat.le_trans (pass_down rs (h.step r) hr2 _) ?_
      rw [step_cv h (hr r (List.mem_cons_self ..))]
      have := cst_mono hf r.2 0 0 (Nat.le_refl _)
      split <;> first | omega | (rename_i hh; have h9 : ¬ cst (cvs sh) r.2 0 < cvs sh r.1.toNat := fun h8 => hh ⟨rfl, h8⟩; omega)
    · exact ih (h.step t) hr2 hf2 r hm
theorem it_ok {N : Nat} {rs : List Rl} {sh : List Int} (h : OkS N sh) : ∀ k, OkS N (itS rs k sh) := by
  intro k
  induction k with
  | zero => exact h
  | succ k ih => exact pass_ok rs ih
theorem it_low {N : Nat} {rs : List Rl} {f : Nat → Nat} {sh : List Int} (h : OkS N sh) (hr : ∀ r ∈ rs, OkR N r) (hp : ∀ r ∈ rs, f r.1.toNat ≤ cst f r.2 0) (hf : ∀ i, f i ≤ cvs sh i) : ∀ k i, f i ≤ cvs (itS rs k sh) i := by
  intro k
  induction k with
  | zero => exact hf
  | succ k ih => exact pass_low rs (it_ok h k) hr hp ih
theorem it_up {N : Nat} {rs : List Rl} {sh : List Int} (h : OkS N sh) (hr : ∀ r ∈ rs, OkR N r) (hf : ∀ i, cvs sh i ≤ 2000000) : ∀ k i, cvs (itS rs k sh) i ≤ bkk rs k i := by
  intro k
  induction k with
  | zero => exact hf
  | succ k ih =>
    intro i
    show cvs (rs.foldl stepS (itS rs k sh)) i ≤ bst (bkk rs k) i rs (bkk rs k i)
    rcases bst_cases (bkk rs k) i rs (bkk rs k i) with h1 | ⟨r, h2, h3, h4⟩
    · rw [h1]; exact Nat.le_trans (pass_down rs (it_ok h k) hr i) (ih i)
    · rw [h4, ← h3]; exact pass_up rs (it_ok h k) hr ih r h2
theorem okR_of {ns ts : List ByteArray} {rs : List Rl} (hv : validG ns ts rs = true) : ∀ r ∈ rs, OkR (nS ns) r := fun r hr => by
  obtain ⟨f1, f2, f3, f4⟩ := fit_of ((validG_iff.1 hv).2.2.2.1 r hr)
  exact ⟨f1, f2, fun s hs => (f4 s hs).1⟩
theorem okS_rep (N : Nat) : OkS N (List.replicate N (-1)) := ⟨by simp, fun s hs => by rw [List.eq_of_mem_replicate hs]; omega⟩
theorem shortR_ok {ns ts : List ByteArray} {rs : List Rl} (hv : validG ns ts rs = true) : OkS (nS ns) (shortR ns ts rs) := by
  unfold shortR; rw [if_pos hv]; exact it_ok (okS_rep _) _
/-- no rule makes a shortest string shorter -/
theorem shortR_post {ns ts : List ByteArray} {rs : List Rl} (hv : validG ns ts rs = true) : ∀ r ∈ rs, cvs (shortR ns ts rs) r.1.toNat ≤ cst (cvs (shortR ns ts rs)) r.2 0 := by
  have hr := okR_of hv
  have hrn : ∀ r ∈ rs, r.1.toNat < nS ns := fun r h => by have h0 := (hr r h).l0; have := (hr r h).l1; omega
  have e0 : ∀ i, cvs (List.replicate (nS ns) (-1)) i = if i < nS ns then 2000000 else cv 0 := fun i => by
    unfold cvs iAt
    rw [List.getD_eq_getElem?_getD, List.getElem?_replicate]
    split <;> rfl
  have hz : cv 0 = 0 := rfl
  have hz2 : ∀ i, cvs (List.replicate (nS ns) (-1)) i ≤ 2000000 := fun i => by rw [e0]; split <;> omega
  have hin : ∀ k i, bkk rs k i ≤ 2000000 := fun k i => by rcases bkk_in rs k i with h | h <;> omega
  have hkey : ∀ i, i < nS ns → cvs (shortR ns ts rs) i = bkk rs (nS ns) i := fun i hi => by
    have h1 := it_up (okS_rep (nS ns)) hr hz2 (nS ns + 1) i
    have h2 := it_low (f := fun i => if i < nS ns then bkk rs (nS ns) i else 0) (okS_rep (nS ns)) hr (fun r h => by
      rw [if_pos (hrn r h)]
      refine Nat.le_trans (bkk_post hrn h) (Nat.le_of_eq (cst_same _ _ fun s hs h0 => ?_))
      rw [if_pos (by have := (hr r h).s s hs; omega)]) (fun i => by rw [e0]; split <;> first | exact hin _ _ | omega) (nS ns + 1) i
    rw [if_pos hi] at h2
    rw [bkk_fix hrn] at h1
    unfold shortR
    rw [if_pos hv]
    omega
  intro r h
  rw [hkey _ (hrn r h)]
  refine Nat.le_trans (bkk_post hrn h) (Nat.le_of_eq (cst_same _ _ fun s hs h0 => ?_))
  rw [hkey _ (by have := (hr r h).s s hs; omega)]
end Go.Proofs.Ytdmdcmhgfgookaa.A

/- Grammars that are well made: how many terminals, up to six, strings can have. -/
set_option linter.unusedSimpArgs false
set_option linter.unusedVariables false
set_option maxRecDepth 100000
set_option maxHeartbeats 4000000
namespace Go.Proofs.Ytdmdcmhgfgookaa.A
open Go
def rowAt (M : List (List Bool)) (i : Nat) : List Bool := M.getD i []
def oneB (M : List (List Bool)) (s : Int) (k : Nat) : Bool := if 0 ≤ s then bAt (rowAt M s.toNat) k else decide (k = 1)
def nextB (M : List (List Bool)) (now : List Bool) (s : Int) : List Bool := (List.range 7).map fun m => (List.range (m + 1)).any fun n => bAt now n && oneB M s (m - n)
theorem map_at7 {g : Nat → Bool} {m : Nat} (h : m < 7) : bAt ((List.range 7).map g) m = g m := by
  rw [bAt, List.getD_eq_getElem?_getD, List.getElem?_map, List.getElem?_range h]; rfl
theorem bAt_lt {l : List Bool} {m : Nat} (h : bAt l m = true) : m < l.length := by
  refine Classical.byContradiction fun hn => ?_
  rw [bAt, List.getD_eq_getElem?_getD, List.getElem?_eq_none (by omega)] at h
  cases h
theorem nextB_iff {M : List (List Bool)} {now : List Bool} {s : Int} {m : Nat} (h : m < 7) : bAt (nextB M now s) m = true ↔ ∃ n k, n + k = m ∧ bAt now n = true ∧ oneB M s k = true := by
  unfold nextB
  rw [map_at7 h, List.any_eq_true]
  constructor
  · rintro ⟨n, hn, h1⟩
    rw [List.mem_range] at hn
    rw [Bool.and_eq_true] at h1
    exact ⟨n, m - n, by omega, h1.1, h1.2⟩
  · rintro ⟨n, k, rfl, h1, h2⟩
    refine ⟨n, List.mem_range.2 (by omega), ?_⟩
    rw [h1, show n + k - n = k by omega, h2]; rfl
def start7 : List Bool := [true, false, false, false, false, false, false]
def fillB (M : List (List Bool)) (R : List Int) : List Bool := R.foldl (nextB M) start7
def orB (a f : List Bool) : List Bool := (List.range 7).map fun n => bAt f n || bAt a n
def stepL (M : List (List Bool)) (r : Rl) : List (List Bool) := M.set r.1.toNat (orB (rowAt M r.1.toNat) (fillB M r.2))
def itL (rs : List Rl) : Nat → List (List Bool) → List (List Bool)
  | 0, M => M
  | n + 1, M => rs.foldl stepL (itL rs n M)
def none7 : List Bool := List.replicate 7 false
def lensG (ns : List ByteArray) (rs : List Rl) : List (List Bool) := itL rs (7 * nS ns + 1) (List.replicate (nS ns) none7)
theorem start7_at {a : Nat} (h : bAt start7 a = true) : a = 0 := by
  have := bAt_lt h
  have h7 : a < 7 := this
  match a, h7 with
  | 0, _ => rfl
  | 1, _ => cases h
  | 2, _ => cases h
  | 3, _ => cases h
  | 4, _ => cases h
  | 5, _ => cases h
  | 6, _ => cases h
theorem rowAt_set {M : List (List Bool)} {k i : Nat} {v : List Bool} (h : k < M.length) : rowAt (M.set k v) i = if k = i then v else rowAt M i := by
  by_cases e : k = i
  · subst e; rw [if_pos rfl, rowAt, List.getD_eq_getElem?_getD, List.getElem?_set_self h]; rfl
  · rw [if_neg e, rowAt, rowAt, List.getD_eq_getElem?_getD, List.getD_eq_getElem?_getD, List.getElem?_set_ne e]
theorem stepL_len (M : List (List Bool)) (r : Rl) : (stepL M r).length = M.length := by unfold stepL; simp
theorem passL_len (rs : List Rl) : ∀ M : List (List Bool), (rs.foldl stepL M).length = M.length := by
  induction rs with
  | nil => intro M; rfl
  | cons r rs ih => intro M; rw [List.foldl_cons, ih, stepL_len]
theorem itL_len (rs : List Rl) (M : List (List Bool)) : ∀ n, (itL rs n M).length = M.length := by
  intro n
  induction n with
  | zero => rfl
  | succ n ih => rw [itL, passL_len, ih]
/-! none is shorter -/
def Snd (f : Nat → Nat) (M : List (List Bool)) : Prop := ∀ i n : Nat, n < 7 → bAt (rowAt M i) n = true → f i ≤ n
theorem fillB_sound {f : Nat → Nat} {M : List (List Bool)} (hM : Snd f M) : ∀ (R : List Int) (now : List Bool) (n : Nat), n < 7 → bAt (R.foldl (nextB M) now) n = true → ∃ a, bAt now a = true ∧ ∀ x, x ≤ a → cst f R x ≤ n := by
  intro R
  induction R with
  | nil => intro now n _ h; exact ⟨n, h, fun x hx => by unfold cst; split <;> omega⟩
  | cons s R ih =>
    intro now n hn h
    obtain ⟨a', h1, h2⟩ := ih _ n hn h
    have ha' : a' < 7 := by have := bAt_lt h1; unfold nextB at this; simpa using this
    obtain ⟨a, k, rfl, h3, h4⟩ := (nextB_iff ha').1 h1
    refine ⟨a, h3, fun x hx => ?_⟩
    unfold cst
    unfold oneB at h4
    by_cases h5 : 0 ≤ s
    · rw [if_pos h5] at h4
      have h6 := hM s.toNat k (by omega) h4
      rw [if_neg (by omega), if_neg (by omega)]
      exact h2 _ (by omega)
    · rw [if_neg h5, decide_eq_true_eq] at h4
      rw [if_pos (by omega)]
      exact h2 _ (by omega)
theorem stepL_sound {f : Nat → Nat} {M : List (List Bool)} {r : Rl} (hM : Snd f M) (hl : r.1.toNat < M.length) (hp : f r.1.toNat ≤ cst f r.2 0) : Snd f (stepL M r) := by
  intro i n hn h
  unfold stepL at h
  rw [rowAt_set hl] at h
  split at h
  · rename_i e
    subst e
    unfold orB at h
    rw [map_at7 hn, Bool.or_eq_true] at h
    rcases h with h | h
    · unfold fillB at h
      obtain ⟨a, h1, h2⟩ := fillB_sound hM r.2 _ n hn h
      exact Nat.le_trans hp (h2 0 (by omega))
    · exact hM _ n hn h
  · exact hM i n hn h
theorem passL_sound {f : Nat → Nat} : ∀ (rs : List Rl) {M : List (List Bool)}, Snd f M → (∀ r ∈ rs, r.1.toNat < M.length) → (∀ r ∈ rs, f r.1.toNat ≤ cst f r.2 0) → Snd f (rs.foldl stepL M) := by
  intro rs
  induction rs with
  | nil => intro M h _ _; exact h
  | cons r rs ih =>
    intro M h hl hp
    exact ih (stepL_sound h (hl r (List.mem_cons_self ..)) (hp r (List.mem_cons_self ..))) (fun x hx => by rw [stepL_len]; exact hl x (List.mem_cons_of_mem _ hx)) (fun x hx => hp x (List.mem_cons_of_mem _ hx))
theorem itL_sound {f : Nat → Nat} {rs : List Rl} {M : List (List Bool)} (h : Snd f M) (hl : ∀ r ∈ rs, r.1.toNat < M.length) (hp : ∀ r ∈ rs, f r.1.toNat ≤ cst f r.2 0) : ∀ n, Snd f (itL rs n M) := by
  intro n
  induction n with
  | zero => exact h
  | succ n ih => exact passL_sound rs ih (fun r hr => by rw [itL_len]; exact hl r hr) hp
/-! each is met -/
def Met (sh : List Int) (M : List (List Bool)) : Prop := ∀ i n : Nat, n < 7 → i < sh.length → iAt sh i = (n : Int) → bAt (rowAt M i) n = true
theorem sumGo_ge (sh : List Int) : ∀ (R : List Int) (n : Int), 0 ≤ n → 0 ≤ sumGo sh R n → sumGo sh R n ≤ 6 → n ≤ sumGo sh R n := by
  intro R
  induction R with
  | nil => intro n h0; unfold sumGo; split <;> omega
  | cons s R ih =>
    intro n h0
    unfold sumGo
    split
    · intro h1 h2; have := ih (n + 1) (by omega) h1 h2; omega
    · split
      · intro h1; omega
      · intro h1 h2; have := ih (n + iAt sh s.toNat) (by omega) h1 h2; omega
theorem fillB_met {sh : List Int} {M : List (List Bool)} (hM : Met sh M) : ∀ (R : List Int) (now : List Bool) (x : Int), 0 ≤ x → (∀ s ∈ R, s < sh.length) → 0 ≤ sumGo sh R x → sumGo sh R x ≤ 6 → bAt now x.toNat = true → bAt (R.foldl (nextB M) now) (sumGo sh R x).toNat = true := by
  intro R
  induction R with
  | nil =>
    intro now x h0 _ h1 h2 h3
    unfold sumGo at h2 ⊢
    rw [if_neg (by intro h; rw [if_pos h] at h2; omega)]
    exact h3
  | cons s R ih =>
    intro now x h0 hs h1 h2 h3
    have hr : ∀ s ∈ R, s < sh.length := fun x hx => hs x (List.mem_cons_of_mem _ hx)
    have hl := hs s (List.mem_cons_self ..)
    unfold sumGo at h1 h2 ⊢
    by_cases h4 : s < 0
    · rw [if_pos h4] at h1 h2 ⊢
      have h5 := sumGo_ge sh R (x + 1) (by omega) h1 h2
      refine ih _ (x + 1) (by omega) hr h1 h2 ((nextB_iff (by omega)).2 ⟨x.toNat, 1, by omega, h3, ?_⟩)
      unfold oneB; rw [if_neg (by omega)]; rfl
    · rw [if_neg h4] at h1 h2 ⊢
      by_cases h6 : iAt sh s.toNat < 0
      · rw [if_pos h6] at h1; omega
      · rw [if_neg h6] at h1 h2 ⊢
        have h5 := sumGo_ge sh R (x + iAt sh s.toNat) (by omega) h1 h2
        refine ih _ (x + iAt sh s.toNat) (by omega) hr h1 h2 ((nextB_iff (by omega)).2 ⟨x.toNat, (iAt sh s.toNat).toNat, by omega, h3, ?_⟩)
        unfold oneB; rw [if_pos (by omega)]
        exact hM s.toNat (iAt sh s.toNat).toNat (by omega) (by omega) (by omega)
theorem stepL_mono {M : List (List Bool)} {r : Rl} (hl : r.1.toNat < M.length) {i n : Nat} (hn : n < 7) (h : bAt (rowAt M i) n = true) : bAt (rowAt (stepL M r) i) n = true := by
  unfold stepL
  rw [rowAt_set hl]
  split
  · rename_i e; subst e
    unfold orB; rw [map_at7 hn, h, Bool.or_true]
  · exact h
theorem passL_mono {i n : Nat} (hn : n < 7) : ∀ (rs : List Rl) {M : List (List Bool)}, (∀ r ∈ rs, r.1.toNat < M.length) → bAt (rowAt M i) n = true → bAt (rowAt (rs.foldl stepL M) i) n = true := by
  intro rs
  induction rs with
  | nil => intro M _ h; exact h
  | cons r rs ih => intro M hl h; exact ih (fun x hx => by rw [stepL_len]; exact hl x (List.mem_cons_of_mem _ hx)) (stepL_mono (hl r (List.mem_cons_self ..)) hn h)
theorem itL_mono {rs : List Rl} {M : List (List Bool)} (hl : ∀ r ∈ rs, r.1.toNat < M.length) {i n : Nat} (hn : n < 7) : ∀ (d k : Nat), bAt (rowAt (itL rs k M) i) n = true → bAt (rowAt (itL rs (k + d) M) i) n = true := by
  intro d
  induction d with
  | zero => intro k h; exact h
  | succ d ih => intro k h; exact passL_mono hn rs (fun r hr => by rw [itL_len]; exact hl r hr) (ih k h)
theorem step_met {N : Nat} {sh : List Int} {M : List (List Bool)} {r : Rl} (hs : OkS N sh) (hr : OkR N r) (hl : M.length = N) (hM : Met sh M) : Met (stepS sh r) (stepL M r) := by
  have hlen := hs.len; have h0 := hr.l0; have h1 := hr.l1
  intro i n hn hi e
  rw [stepS_len] at hi
  by_cases hc : sumG r.2 sh ≥ 0 ∧ (iAt sh r.1.toNat < 0 ∨ sumG r.2 sh < iAt sh r.1.toNat)
  · unfold stepS at e
    rw [if_pos hc, iAt_set (by omega)] at e
    split at e
    · rename_i e2; subst e2
      unfold stepL
      rw [rowAt_set (by omega), if_pos rfl]
      unfold orB
      rw [map_at7 hn, Bool.or_eq_true]
      left
      unfold sumG at e
      have := fillB_met hM r.2 start7 0 (by omega) (fun s hs => by rw [hlen]; exact hr.s s hs) (by omega) (by omega) rfl
      rw [e] at this
      exact this
    · exact stepL_mono (by omega) hn (hM i n hn hi e)
  · unfold stepS at e
    rw [if_neg hc] at e
    exact stepL_mono (by omega) hn (hM i n hn hi e)
theorem pass_met {N : Nat} : ∀ (rs : List Rl) {sh : List Int} {M : List (List Bool)}, OkS N sh → (∀ r ∈ rs, OkR N r) → M.length = N → Met sh M → Met (rs.foldl stepS sh) (rs.foldl stepL M) := by
  intro rs
  induction rs with
  | nil => intro sh M _ _ _ h; exact h
  | cons r rs ih =>
    intro sh M hs hr hl h
    exact ih (hs.step r) (fun x hx => hr x (List.mem_cons_of_mem _ hx)) (by rw [stepL_len]; exact hl) (step_met hs (hr r (List.mem_cons_self ..)) hl h)
theorem it_met {N : Nat} {rs : List Rl} {sh : List Int} {M : List (List Bool)} (hs : OkS N sh) (hr : ∀ r ∈ rs, OkR N r) (hl : M.length = N) (h : Met sh M) : ∀ k, Met (itS rs k sh) (itL rs k M) := by
  intro k
  induction k with
  | zero => exact h
  | succ k ih => exact pass_met rs (it_ok hs k) hr (by rw [itL_len]; exact hl) ih
theorem lens_ok {ns ts : List ByteArray} {rs : List Rl} (hv : validG ns ts rs = true) {i n : Nat} (hi : i < nS ns) (hn : n < 7) : (bAt (rowAt (lensG ns rs) i) n = true → 0 ≤ iAt (shortR ns ts rs) i ∧ iAt (shortR ns ts rs) i ≤ n) ∧ (iAt (shortR ns ts rs) i = (n : Int) → bAt (rowAt (lensG ns rs) i) n = true) := by
  have hr := okR_of hv
  have hrn : ∀ r ∈ rs, r.1.toNat < (List.replicate (nS ns) none7).length := fun r h => by rw [List.length_replicate]; have h0 := (hr r h).l0; have := (hr r h).l1; omega
  have hnone : ∀ i n, bAt (rowAt (List.replicate (nS ns) none7) i) n = false := fun i n => by
    unfold rowAt
    rw [List.getD_eq_getElem?_getD, List.getElem?_replicate]
    split
    · show bAt none7 n = false
      unfold none7
      rw [bAt, List.getD_eq_getElem?_getD, List.getElem?_replicate]
      split <;> rfl
    · rfl
  constructor
  · intro h
    have h1 := itL_sound (f := cvs (shortR ns ts rs)) (M := List.replicate (nS ns) none7) (fun i n _ hh => by rw [hnone] at hh; cases hh) hrn (shortR_post hv) (7 * nS ns + 1) i n hn (by unfold lensG at h; exact h)
    unfold cvs cv at h1
    split at h1 <;> omega
  · intro h
    have h1 := it_met (okS_rep (nS ns)) hr (M := List.replicate (nS ns) none7) (by simp) (fun i n _ hi2 hh => by
      exfalso
      rw [List.length_replicate] at hi2
      unfold iAt at hh
      rw [List.getD_eq_getElem?_getD, List.getElem?_replicate, if_pos hi2] at hh
      simp at hh) (nS ns + 1)
    have h2 : itS rs (nS ns + 1) (List.replicate (nS ns) (-1)) = shortR ns ts rs := by unfold shortR; rw [if_pos hv]
    rw [h2] at h1
    have h3 := h1 i n hn (by rw [(shortR_ok hv).len]; exact hi) h
    have h4 := itL_mono hrn hn (6 * nS ns) (nS ns + 1) h3
    unfold lensG
    rw [show 7 * nS ns + 1 = nS ns + 1 + 6 * nS ns by omega]
    exact h4
end Go.Proofs.Ytdmdcmhgfgookaa.A

/- Grammars that are well made: rows of truth values as cells; fill. -/
set_option linter.unusedSimpArgs false
set_option linter.unusedVariables false
set_option maxRecDepth 100000
set_option maxHeartbeats 4000000
namespace Go.Proofs.Ytdmdcmhgfgookaa.A
open Go
/-! ### rows of truth values -/
def LC (l : List (List Bool)) : List C := l.map fun r => (C.sl (nB r) (bC r))
def nRows (l : List (List Bool)) : Nat := l.foldr (fun _ n => n + 1) 0
theorem nRows_eq (l : List (List Bool)) : nRows l = l.length := by unfold nRows; induction l with | nil => rfl | cons x l ih => rw [List.foldr_cons, ih]; rfl
theorem LC_len (l : List (List Bool)) : (LC l).length = nRows l := by simp [LC, nRows_eq]
theorem gn_LC (l : List (List Bool)) (k : Nat) : gn (cellAt (LC l) k) = nB (rowAt l k) := by
  unfold LC; rw [map_at, rowAt, List.getD_eq_getElem?_getD]
  cases l[k]? <;> rfl
theorem gc_LC (l : List (List Bool)) (k : Nat) : gc (cellAt (LC l) k) = bC (rowAt l k) := by
  unfold LC; rw [map_at, rowAt, List.getD_eq_getElem?_getD]
  cases l[k]? <;> rfl
theorem ok_LC {l : List (List Bool)} {k : Nat} (h : k < l.length) : okK .sl (cellAt (LC l) k) := by
  unfold LC; rw [map_at, List.getElem?_eq_getElem h]; exact .inr ⟨_, _, rfl⟩
theorem LC_snoc (l : List (List Bool)) (r : List Bool) : LC l ++ [(C.sl (nB r) (bC r))] = LC (l ++ [r]) := by simp [LC]
theorem LC_set (l : List (List Bool)) {k : Nat} (r : List Bool) (h : k < l.length) : setC (LC l) k [(C.sl (nB r) (bC r))] = LC (l.set k r) := map_set (fun r => (C.sl (nB r) (bC r))) l r h
/-- each row has seven -/
def Row7 (N : Nat) (M : List (List Bool)) : Prop := M.length = N ∧ ∀ r ∈ M, r.length = 7
theorem Row7.at {N : Nat} {M : List (List Bool)} (h : Row7 N M) {k : Nat} (hk : k < N) : (rowAt M k).length = 7 := by
  unfold rowAt
  rw [List.getD_eq_getElem?_getD, List.getElem?_eq_getElem (by rw [h.1]; exact hk)]
  exact h.2 _ (List.getElem_mem _)
/-! ### what is done of a next row -/
/-- by all places ahead of n, and by n's first k -/
def nextK (M : List (List Bool)) (now : List Bool) (s : Int) (n k m : Nat) : Bool := ((List.range n).any fun a => decide (a ≤ m) && (bAt now a && oneB M s (m - a))) || (decide (n ≤ m) && (decide (m - n < k) && (bAt now n && oneB M s (m - n))))
theorem nextK_start (M : List (List Bool)) (now : List Bool) (s : Int) (m : Nat) : nextK M now s 0 0 m = false := by unfold nextK; simp
theorem nextK_n {M : List (List Bool)} {now : List Bool} {s : Int} {n k m : Nat} (h : 7 ≤ n + k) (hm : m < 7) : nextK M now s n k m = nextK M now s (n + 1) 0 m := by
  unfold nextK
  rw [List.range_succ, List.any_append, Bool.eq_iff_iff]
  simp only [Bool.or_eq_true, Bool.and_eq_true, decide_eq_true_eq, List.any_cons, List.any_nil, Bool.or_false, Nat.not_lt_zero, false_and, and_false, or_false]
  constructor
  · rintro (h1 | ⟨h1, h2, h3⟩)
    · exact .inl h1
    · exact .inr ⟨h1, h3⟩
  · rintro (h1 | ⟨h1, h3⟩)
    · exact .inl h1
    · exact .inr ⟨h1, by omega, h3⟩
theorem nextK_k {M : List (List Bool)} {now : List Bool} {s : Int} {n k m : Nat} : nextK M now s n (k + 1) m = (nextK M now s n k m || (decide (m = n + k) && (bAt now n && oneB M s k))) := by
  unfold nextK
  rw [Bool.eq_iff_iff]
  simp only [Bool.or_eq_true, Bool.and_eq_true, decide_eq_true_eq]
  constructor
  · rintro (h1 | ⟨h1, h2, h3⟩)
    · exact .inl (.inl h1)
    · by_cases e : m - n < k
      · exact .inl (.inr ⟨h1, e, h3⟩)
      · have e2 : m - n = k := by omega
        rw [e2] at h3
        exact .inr ⟨by omega, h3⟩
  · rintro ((h1 | ⟨h1, h2, h3⟩) | ⟨rfl, h3⟩)
    · exact .inl h1
    · exact .inr ⟨h1, by omega, h3⟩
    · exact .inr ⟨by omega, by omega, by rw [show n + k - n = k by omega]; exact h3⟩
theorem nextK_all {M : List (List Bool)} {now : List Bool} {s : Int} {m : Nat} (hm : m < 7) : nextK M now s 7 0 m = bAt (nextB M now s) m := by
  rw [Bool.eq_iff_iff, nextB_iff hm]
  unfold nextK
  simp only [Bool.or_eq_true, Bool.and_eq_true, decide_eq_true_eq, List.any_eq_true, List.mem_range, Nat.not_lt_zero, false_and, and_false, or_false]
  constructor
  · rintro ⟨a, _, h1, h2, h3⟩; exact ⟨a, m - a, by omega, h2, h3⟩
  · rintro ⟨a, k, rfl, h2, h3⟩; exact ⟨a, by omega, by omega, h2, by rw [show a + k - a = k by omega]; exact h3⟩
/-- the row so far -/
def Part (M : List (List Bool)) (now : List Bool) (s : Int) (n k : Nat) (L : List Bool) : Prop := L.length = 7 ∧ ∀ m, m < 7 → bAt L m = nextK M now s n k m
theorem bAt_setB {l : List Bool} {k i : Nat} {b : Bool} (h : k < l.length) : bAt (l.set k b) i = if k = i then b else bAt l i := by
  by_cases e : k = i
  · subst e; rw [if_pos rfl, bAt, List.getD_eq_getElem?_getD, List.getElem?_set_self h]; rfl
  · rw [if_neg e, bAt, bAt, List.getD_eq_getElem?_getD, List.getD_eq_getElem?_getD, List.getElem?_set_ne e]
theorem part_new (M : List (List Bool)) (now : List Bool) (s : Int) : Part M now s 0 0 (List.replicate 7 false) := ⟨rfl, fun m hm => by
  rw [nextK_start, bAt, List.getD_eq_getElem?_getD, List.getElem?_replicate, if_pos hm]; rfl⟩
theorem part_n {M : List (List Bool)} {now L : List Bool} {s : Int} {n k : Nat} (h : Part M now s n k L) (hk : 7 ≤ n + k) : Part M now s (n + 1) 0 L := ⟨h.1, fun m hm => by rw [h.2 m hm, nextK_n hk hm]⟩
theorem part_set {M : List (List Bool)} {now L : List Bool} {s : Int} {n k : Nat} (h : Part M now s n k L) (hk : n + k < 7) (h1 : bAt now n = true) (h2 : oneB M s k = true) : Part M now s n (k + 1) (L.set (n + k) true) := ⟨by rw [List.length_set]; exact h.1, fun m hm => by
  rw [bAt_setB (by rw [h.1]; exact hk), nextK_k, h1, h2]
  split
  · rename_i e; rw [decide_eq_true e.symm]; simp
  · rename_i e; rw [decide_eq_false (fun e2 => e e2.symm), h.2 m hm]; simp⟩
theorem part_keep {M : List (List Bool)} {now L : List Bool} {s : Int} {n k : Nat} (h : Part M now s n k L) (h1 : (bAt now n && oneB M s k) = false) : Part M now s n (k + 1) L := ⟨h.1, fun m hm => by
  rw [h.2 m hm, nextK_k, h1, Bool.and_false, Bool.or_false]⟩
theorem part_all {M : List (List Bool)} {now L : List Bool} {s : Int} (h : Part M now s 7 0 L) : L = nextB M now s := by
  have hl : (nextB M now s).length = 7 := by unfold nextB; simp
  refine List.ext_getElem (by rw [h.1, hl]) fun i h1 h2 => ?_
  have h3 := h.2 i (by rw [h.1] at h1; exact h1)
  rw [nextK_all (by rw [h.1] at h1; exact h1), bAt, bAt, List.getD_eq_getElem?_getD, List.getD_eq_getElem?_getD, List.getElem?_eq_getElem h1, List.getElem?_eq_getElem h2] at h3
  exact h3
end Go.Proofs.Ytdmdcmhgfgookaa.A

/- Grammars that are well made: fill, the walk. -/
set_option linter.unusedSimpArgs false
set_option linter.unusedVariables false
set_option maxRecDepth 100000
set_option maxHeartbeats 4000000
namespace Go.Proofs.Ytdmdcmhgfgookaa.A
open Go
theorem setB7 : setC (repC 7 [vB false]) 0 [vB true] = bC start7 := rfl
theorem repB7 : repC 7 [vB false] = bC (List.replicate 7 false) := rfl
theorem fill_next {M : List (List Bool)} {R : List Int} {i : Int} {L : List Bool} (h0 : 0 ≤ i) (hi : i < nI R) (h : L = (R.take i.toNat).foldl (nextB M) start7) : (R.take (i + 1).toNat).foldl (nextB M) start7 = nextB M L (iAt R i.toNat) := by
  have := nI_eq R
  rw [show (i + 1).toNat = i.toNat + 1 by omega, take_snoc 0 (by omega), List.foldl_append, ← h]; rfl
theorem nextB_len (M : List (List Bool)) (now : List Bool) (s : Int) : (nextB M now s).length = 7 := by unfold nextB; simp
theorem oneB_nt {M : List (List Bool)} {s : Int} {k : Nat} (h : 0 ≤ s) : oneB M s k = bAt (rowAt M s.toNat) k := by unfold oneB; rw [if_pos h]
theorem oneB_t {M : List (List Bool)} {s : Int} {k : Nat} (h : ¬ 0 ≤ s) : oneB M s k = decide (k = 1) := by unfold oneB; rw [if_neg h]
theorem pc_fill (M : List (List Bool)) (R : List Int) (N : Nat) (hM : Row7 N M) (hN : N ≤ 1000000) (hR : nI R ≤ 1000000) (hs : ∀ s ∈ R, s < N) : PC Try.prog T 48 [.v false [.sl (nRows M) (LC M)], .v false [(C.sl (nI R) (iC R))]] (ret1 (.own boolT 7 (bC (fillB M R)))) [] := by
  have nR := nI_eq R
  have nM : nRows M = N := by rw [nRows_eq]; exact hM.1
  refine pc_of tok Try.func48 rfl (by rfl) ?_
  obtain ⟨j, hj⟩ : ∃ j : J, j = std Try.prog T := ⟨_, rfl⟩
  have hm : Try.prog.follows .mixedOrders = true := by kernel_rfl
  generalize y_nR : @nR = x_nR at *
  generalize y_iC : @iC = x_iC at *
  generalize y_bC : @bC = x_bC at *
  generalize y_nI : @nI = x_nI at *
  generalize y_nB : @nB = x_nB at *
  generalize y_start7 : @start7 = x_start7 at *
  generalize y_fillB : @fillB = x_fillB at *
  generalize y_LC : @LC = x_LC at *
  generalize y_nRows : @nRows = x_nRows at *
  (repeat' first | ((first | with_reducible refine tr_cut (fun h => ?_) (fun h => ?_) | refine aw_condj (by cbv) (fun h => ?_) (fun h => ?_)) <;> (try simp (disch := omega) only [hj, std, cmpI, cmpB, satB, Bool.not_eq_true, Bool.not_eq_false, decide_eq_true_eq, decide_eq_false_iff_not, beq_iff_eq, bne_iff_ne, bne_eq_false_iff_eq, beq_eq_false_iff_ne, ne_eq, reduceCtorEq, not_true_eq_false, not_false_eq_true, pl0, if_true, cmpS_eq, cmpS_neq, Bool.not_eq_eq_eq_not, Bool.not_true, Bool.not_false, Bool.not_eq_true', add64, sub64] at h) <;> (try (exfalso; omega))) | (with_reducible refine tr_alt (fun h => ?_) ?_ <;> (try (exfalso; omega))) | (with_reducible refine tr_ob ?_ ?_) | (with_reducible refine tr_done ?_) | (refine aw_tr hj tok book0 (by cbv) ?_) | (refine aw_seq fun K hK => ?_) | (refine aw_tr1 hj tok book0 (by cbv) ?_) | (refine aw_skip ?_) | (refine aw_block ?_) | (refine aw_exit ?_) | (refine aw_ret ⟨.inr rfl, ret_okj hj (by cbv) ?_ ?_⟩) | (refine aw_ret ?_) | (with_reducible refine th_n ?_) | (with_reducible refine th_r ?_) | (with_reducible refine th_x ?_) | (with_reducible refine blk_n ?_) | (with_reducible refine blk_r ?_) | (with_reducible refine blk_x ?_) | (with_reducible refine blk_y rfl ?_) | (refine ⟨.inr rfl, ret_okj hj (by cbv) ?_ ?_⟩) | (refine ⟨.inl rfl, ret_okj hj (by cbv) ?_ ?_⟩) | ((with_reducible refine ⟨(_, _, _, _, _, _, _), by cbv, ?_, ?_⟩)) | ((with_reducible refine ⟨(_, _, _, _, _, _), by cbv, ?_, ?_⟩)) | ((with_reducible refine ⟨(_, _, _, _, _), by cbv, ?_, ?_⟩)) | ((with_reducible refine ⟨(_, _, _, _), by cbv, ?_, ?_⟩)) | ((with_reducible refine ⟨(_, _, _), by cbv, ?_, ?_⟩)) | ((with_reducible refine ⟨(_, _), by cbv, ?_, ?_⟩)) | ((with_reducible refine ⟨_, by cbv, ?_, ?_⟩)) | (with_reducible apply_assumption -symm -exfalso only [*]))
  all_goals ((try subst y_nR); (try subst y_iC); (try subst y_bC); (try subst y_nI); (try subst y_nB); (try subst y_start7); (try subst y_fillB); (try subst y_LC); (try subst y_nRows))
  all_goals (try (repeat' first | with_reducible exact obl0 | with_reducible refine obl1 ?_ ?_))
  all_goals (try first | with_reducible exact True.intro | ((first | refine ob_le hj ?_ | refine ob_lei hj ?_ | refine ob_inb hj ?_ | refine ob_pos hj ?_ | refine ob_ne0 hj ?_ | refine ob_eqb hj ?_); (first | rfl | first | omega | (simp only [hj, std]; split <;> omega) | (simp (disch := omega) only [hj, std, cmpI, cmpB, satB, add64, sub64, ite0, pl0, pl2, pl3, sb0, if_true, if_false, eq_self, repC_length] <;> omega) | (simp (disch := omega) [hj, std, cmpI, cmpB, satB, add64, sub64, ite0, pl0, pl2, pl3, sb0, if_true, if_false, eq_self, repC_length] <;> omega))))
  refine aw_lpj hj [(0, .keep), (1, .keep), (5, .own boolT), (6, .keep)] [] (fun (⟨i, m, cs⟩ : Int × Nat × (List C)) => stOf 62 [(0, .one (.c (.sl (nRows M) (LC M)))), (1, .one (.c ((C.sl (nI R) (iC R))))), (5, .one (.view 5 0)), (6, .one (.c (vI i)))] [(5, .loose [.own boolT m cs])]) (fun (⟨i, m, cs⟩ : Int × Nat × (List C)) => nI R - i.toNat) (fun (⟨i, m, cs⟩ : Int × Nat × (List C)) => 0 ≤ i ∧ i ≤ nI R ∧ m = 7 ∧ ∃ L : List Bool, cs = bC L ∧ L.length = 7 ∧ L = (R.take i.toNat).foldl (nextB M) start7) ((0, j.toNat 7, j.set (j.rep (j.toNat 7) [.val (.bool false)]) (j.toNat 0) [.val (.bool true)])) (by generalize @nR = x_nR; generalize @iC = x_iC; generalize @bC = x_bC; generalize @nI = x_nI; generalize @nB = x_nB; generalize @start7 = x_start7; generalize @fillB = x_fillB; generalize @LC = x_LC; generalize @nRows = x_nRows; cbv) ?_ (fun ⟨i, m, cs⟩ hI => ?_)
  · refine ⟨by omega, by omega, by rw [hj]; rfl, start7, ?_, rfl, rfl⟩
    rw [hj]; exact setB7
  obtain ⟨i1, i2, rfl, L, rfl, l0, l1⟩ := hI
  have hend : ¬ i < nI R → L = fillB M R := fun h => by unfold fillB; rw [List.take_of_length_le (by omega)] at l1; exact l1
  have nRows' := nB_eq L
  generalize y_nR : @nR = x_nR at *
  generalize y_iC : @iC = x_iC at *
  generalize y_bC : @bC = x_bC at *
  generalize y_nI : @nI = x_nI at *
  generalize y_nB : @nB = x_nB at *
  generalize y_start7 : @start7 = x_start7 at *
  generalize y_fillB : @fillB = x_fillB at *
  generalize y_LC : @LC = x_LC at *
  generalize y_nRows : @nRows = x_nRows at *
  (repeat' first | ((first | with_reducible refine tr_cut (fun h => ?_) (fun h => ?_) | refine aw_condj (by cbv) (fun h => ?_) (fun h => ?_)) <;> (try simp (disch := omega) only [hj, std, cmpI, cmpB, satB, Bool.not_eq_true, Bool.not_eq_false, decide_eq_true_eq, decide_eq_false_iff_not, beq_iff_eq, bne_iff_ne, bne_eq_false_iff_eq, beq_eq_false_iff_ne, ne_eq, reduceCtorEq, not_true_eq_false, not_false_eq_true, pl0, if_true, cmpS_eq, cmpS_neq, Bool.not_eq_eq_eq_not, Bool.not_true, Bool.not_false, Bool.not_eq_true', add64, sub64] at h) <;> (try (exfalso; omega))) | (with_reducible refine tr_alt (fun h => ?_) ?_ <;> (try (exfalso; omega))) | (with_reducible refine tr_ob ?_ ?_) | (with_reducible refine tr_done ?_) | (refine aw_tr hj tok book0 (by cbv) ?_) | (refine aw_seq fun K hK => ?_) | (refine aw_tr1 hj tok book0 (by cbv) ?_) | (refine aw_skip ?_) | (refine aw_block ?_) | (refine aw_exit ?_) | (refine aw_ret ⟨.inr rfl, ret_okj hj (by cbv) ?_ ?_⟩) | (refine aw_ret ?_) | (with_reducible refine th_n ?_) | (with_reducible refine th_r ?_) | (with_reducible refine th_x ?_) | (with_reducible refine blk_n ?_) | (with_reducible refine blk_r ?_) | (with_reducible refine blk_x ?_) | (with_reducible refine blk_y rfl ?_) | (refine ⟨.inr rfl, ret_okj hj (by cbv) ?_ ?_⟩) | (refine ⟨.inl rfl, ret_okj hj (by cbv) ?_ ?_⟩) | ((with_reducible refine ⟨(_, _, _, _, _, _, _), by cbv, ?_, ?_⟩)) | ((with_reducible refine ⟨(_, _, _, _, _, _), by cbv, ?_, ?_⟩)) | ((with_reducible refine ⟨(_, _, _, _, _), by cbv, ?_, ?_⟩)) | ((with_reducible refine ⟨(_, _, _, _), by cbv, ?_, ?_⟩)) | ((with_reducible refine ⟨(_, _, _), by cbv, ?_, ?_⟩)) | ((with_reducible refine ⟨(_, _), by cbv, ?_, ?_⟩)) | ((with_reducible refine ⟨_, by cbv, ?_, ?_⟩)) | (with_reducible apply_assumption -symm -exfalso only [*]))
  all_goals ((try subst y_nR); (try subst y_iC); (try subst y_bC); (try subst y_nI); (try subst y_nB); (try subst y_start7); (try subst y_fillB); (try subst y_LC); (try subst y_nRows))
  all_goals (try (repeat' first | with_reducible exact obl0 | with_reducible refine obl1 ?_ ?_))
  all_goals (try first | with_reducible exact True.intro | ((first | refine ob_le hj ?_ | refine ob_lei hj ?_ | refine ob_inb hj ?_ | refine ob_pos hj ?_ | refine ob_ne0 hj ?_ | refine ob_eqb hj ?_); (first | rfl | first | omega | (simp only [hj, std]; split <;> omega) | (simp (disch := omega) only [hj, std, cmpI, cmpB, satB, add64, sub64, ite0, pl0, pl2, pl3, sb0, if_true, if_false, eq_self] <;> omega) | (simp (disch := omega) [hj, std, cmpI, cmpB, satB, add64, sub64, ite0, pl0, pl2, pl3, sb0, if_true, if_false, eq_self] <;> omega))) | ((refine ob_vals hj ?_; exact bC_vals _)) | ((refine (ret1_c (own_eq ?_ ?_)).symm; rfl; rw [← hend (by omega)])))
  have hil : i < nI R := by assumption
  have hst := hs _ (iAt_mem R i i1 hil)
  have e1 : gi (cellAt (iC R) i.toNat) = iAt R i.toNat := gi_iC _ _
  refine aw_lpj hj [(0, .keep), (1, .keep), (5, .own boolT), (6, .keep), (7, .own boolT), (8, .keep)] [] (fun (⟨n, m, cs⟩ : Int × Nat × (List C)) => stOf 62 [(0, .one (.c (.sl (nRows M) (LC M)))), (1, .one (.c ((C.sl (nI R) (iC R))))), (5, .one (.view 5 0)), (6, .one (.c (vI i))), (7, .one (.view 7 0)), (8, .one (.c (vI n)))] [(5, .loose [.own boolT 7 (bC L)]), (7, .loose [.own boolT m cs])]) (fun (⟨n, m, cs⟩ : Int × Nat × (List C)) => 7 - n.toNat) (fun (⟨n, m, cs⟩ : Int × Nat × (List C)) => 0 ≤ n ∧ n ≤ 7 ∧ m = 7 ∧ ∃ W : List Bool, cs = bC W ∧ Part M L (iAt R i.toNat) n.toNat 0 W) ((0, j.toNat 7, j.rep (j.toNat 7) [.val (.bool false)])) (by generalize @nR = x_nR; generalize @iC = x_iC; generalize @bC = x_bC; generalize @nI = x_nI; generalize @nB = x_nB; generalize @start7 = x_start7; generalize @fillB = x_fillB; generalize @LC = x_LC; generalize @nRows = x_nRows; cbv) ?_ (fun ⟨n, m, cs⟩ hI => ?_)
  · refine ⟨by omega, by omega, by rw [hj]; rfl, List.replicate 7 false, ?_, part_new _ _ _⟩
    rw [hj]; exact repB7
  obtain ⟨n1, n2, rfl, W, rfl, p0⟩ := hI
  have hfin : ¬ n < 7 → W = (R.take (i + 1).toNat).foldl (nextB M) start7 := fun h => by
    rw [fill_next i1 hil l1]
    have e : n.toNat = 7 := by omega
    rw [e] at p0
    exact part_all p0
  have hW7 : W.length = 7 := p0.1
  generalize y_nR : @nR = x_nR at *
  generalize y_iC : @iC = x_iC at *
  generalize y_bC : @bC = x_bC at *
  generalize y_nI : @nI = x_nI at *
  generalize y_nB : @nB = x_nB at *
  generalize y_start7 : @start7 = x_start7 at *
  generalize y_fillB : @fillB = x_fillB at *
  generalize y_LC : @LC = x_LC at *
  generalize y_nRows : @nRows = x_nRows at *
  (repeat' first | ((first | with_reducible refine tr_cut (fun h => ?_) (fun h => ?_) | refine aw_condj (by cbv) (fun h => ?_) (fun h => ?_)) <;> (try simp (disch := omega) only [hj, std, cmpI, cmpB, satB, Bool.not_eq_true, Bool.not_eq_false, decide_eq_true_eq, decide_eq_false_iff_not, beq_iff_eq, bne_iff_ne, bne_eq_false_iff_eq, beq_eq_false_iff_ne, ne_eq, reduceCtorEq, not_true_eq_false, not_false_eq_true, pl0, if_true, cmpS_eq, cmpS_neq, Bool.not_eq_eq_eq_not, Bool.not_true, Bool.not_false, Bool.not_eq_true', add64, sub64] at h) <;> (try (exfalso; omega))) | (with_reducible refine tr_alt (fun h => ?_) ?_ <;> (try (exfalso; omega))) | (with_reducible refine tr_ob ?_ ?_) | (with_reducible refine tr_done ?_) | (refine aw_tr hj tok book0 (by cbv) ?_) | (refine aw_seq fun K hK => ?_) | (refine aw_tr1 hj tok book0 (by cbv) ?_) | (refine aw_skip ?_) | (refine aw_block ?_) | (refine aw_exit ?_) | (refine aw_ret ⟨.inr rfl, ret_okj hj (by cbv) ?_ ?_⟩) | (refine aw_ret ?_) | (with_reducible refine th_n ?_) | (with_reducible refine th_r ?_) | (with_reducible refine th_x ?_) | (with_reducible refine blk_n ?_) | (with_reducible refine blk_r ?_) | (with_reducible refine blk_x ?_) | (with_reducible refine blk_y rfl ?_) | (refine ⟨.inr rfl, ret_okj hj (by cbv) ?_ ?_⟩) | (refine ⟨.inl rfl, ret_okj hj (by cbv) ?_ ?_⟩) | ((with_reducible refine ⟨(_, _, _, _, _, _, _), by cbv, ?_, ?_⟩)) | ((with_reducible refine ⟨(_, _, _, _, _, _), by cbv, ?_, ?_⟩)) | ((with_reducible refine ⟨(_, _, _, _, _), by cbv, ?_, ?_⟩)) | ((with_reducible refine ⟨(_, _, _, _), by cbv, ?_, ?_⟩)) | ((with_reducible refine ⟨(_, _, _), by cbv, ?_, ?_⟩)) | ((with_reducible refine ⟨(_, _), by cbv, ?_, ?_⟩)) | ((with_reducible refine ⟨_, by cbv, ?_, ?_⟩)) | (with_reducible apply_assumption -symm -exfalso only [*]))
  all_goals ((try subst y_nR); (try subst y_iC); (try subst y_bC); (try subst y_nI); (try subst y_nB); (try subst y_start7); (try subst y_fillB); (try subst y_LC); (try subst y_nRows))
  all_goals (try (repeat' first | with_reducible exact obl0 | with_reducible refine obl1 ?_ ?_))
  all_goals (try first | with_reducible exact True.intro | ((first | refine ob_le hj ?_ | refine ob_lei hj ?_ | refine ob_inb hj ?_ | refine ob_pos hj ?_ | refine ob_ne0 hj ?_ | refine ob_eqb hj ?_); (first | rfl | first | omega | (simp only [hj, std]; split <;> omega) | (simp (disch := omega) only [hj, std, cmpI, cmpB, satB, add64, sub64, ite0, pl0, pl2, pl3, sb0, if_true, if_false, eq_self] <;> omega) | (simp (disch := omega) [hj, std, cmpI, cmpB, satB, add64, sub64, ite0, pl0, pl2, pl3, sb0, if_true, if_false, eq_self] <;> omega))) | ((simp (disch := omega) only [hj, std, add64]; first | omega | exact ⟨by omega, by omega, trivial, W, rfl, hW7, hfin (by omega)⟩)))
  have hn7 : n < 7 := by assumption
  refine aw_lpj hj [(0, .keep), (1, .keep), (5, .own boolT), (6, .keep), (7, .own boolT), (8, .keep), (9, .keep)] [] (fun (⟨k, cs⟩ : Int × (List C)) => stOf 62 [(0, .one (.c (.sl (nRows M) (LC M)))), (1, .one (.c ((C.sl (nI R) (iC R))))), (5, .one (.view 5 0)), (6, .one (.c (vI i))), (7, .one (.view 7 0)), (8, .one (.c (vI n))), (9, .one (.c (vI k)))] [(5, .loose [.own boolT 7 (bC L)]), (7, .loose [.own boolT 7 cs])]) (fun (⟨k, cs⟩ : Int × (List C)) => 7 - k.toNat) (fun (⟨k, cs⟩ : Int × (List C)) => 0 ≤ k ∧ n + k ≤ 7 ∧ ∃ W : List Bool, cs = bC W ∧ Part M L (iAt R i.toNat) n.toNat k.toNat W) ((0, bC W)) (by generalize @nR = x_nR; generalize @iC = x_iC; generalize @bC = x_bC; generalize @nI = x_nI; generalize @nB = x_nB; generalize @start7 = x_start7; generalize @fillB = x_fillB; generalize @LC = x_LC; generalize @nRows = x_nRows; cbv) ?_ (fun ⟨k, cs⟩ hI => ?_)
  · exact ⟨by omega, by omega, W, rfl, p0⟩
  clear p0 hfin hW7
  obtain ⟨k1, k2, W, rfl, p0⟩ := hI
  have nW := nB_eq W
  have hW7 : W.length = 7 := p0.1
  have e2 : gn (cellAt (LC M) (iAt R i.toNat).toNat) = nB (rowAt M (iAt R i.toNat).toNat) := gn_LC _ _
  have e3 : gc (cellAt (LC M) (iAt R i.toNat).toNat) = bC (rowAt M (iAt R i.toNat).toNat) := gc_LC _ _
  have e4 : gb (cellAt (bC L) n.toNat) = bAt L n.toNat := gb_bC _ _
  have e5 : gb (cellAt (bC (rowAt M (iAt R i.toNat).toNat)) k.toNat) = bAt (rowAt M (iAt R i.toNat).toNat) k.toNat := gb_bC _ _
  have hrow : 0 ≤ iAt R i.toNat → (rowAt M (iAt R i.toNat).toNat).length = 7 := fun h => hM.at (by omega)
  have nrow := nB_eq (rowAt M (iAt R i.toNat).toNat)
  have hset : n + k < 7 → setC (bC W) (n + k).toNat [vB true] = bC (W.set (n.toNat + k.toNat) true) := fun h => by
    rw [show (n + k).toNat = n.toNat + k.toNat by omega]; exact bC_set _ _ (by omega)
  have hk1 : (k + 1).toNat = k.toNat + 1 := by omega
  have hn1 : (n + 1).toNat = n.toNat + 1 := by omega
  generalize y_nR : @nR = x_nR at *
  generalize y_iC : @iC = x_iC at *
  generalize y_bC : @bC = x_bC at *
  generalize y_nI : @nI = x_nI at *
  generalize y_nB : @nB = x_nB at *
  generalize y_start7 : @start7 = x_start7 at *
  generalize y_fillB : @fillB = x_fillB at *
  generalize y_LC : @LC = x_LC at *
  generalize y_nRows : @nRows = x_nRows at *
  (repeat' first | ((first | with_reducible refine tr_cut (fun h => ?_) (fun h => ?_) | refine aw_condj (by cbv) (fun h => ?_) (fun h => ?_)) <;> (try simp (disch := omega) only [hj, std, cmpI, cmpB, satB, Bool.not_eq_true, Bool.not_eq_false, decide_eq_true_eq, decide_eq_false_iff_not, beq_iff_eq, bne_iff_ne, bne_eq_false_iff_eq, beq_eq_false_iff_ne, ne_eq, reduceCtorEq, not_true_eq_false, not_false_eq_true, pl0, if_true, cmpS_eq, cmpS_neq, Bool.not_eq_eq_eq_not, Bool.not_true, Bool.not_false, Bool.not_eq_true', ite0, e1, e2, e3, e4, e5, add64, sub64] at h) <;> (try (exfalso; omega))) | (with_reducible refine tr_alt (fun h => ?_) ?_ <;> (try (exfalso; omega))) | (with_reducible refine tr_ob ?_ ?_) | (with_reducible refine tr_done ?_) | (refine aw_tr hj tok book0 (by cbv) ?_) | (refine aw_seq fun K hK => ?_) | (refine aw_tr1 hj tok book0 (by cbv) ?_) | (refine aw_skip ?_) | (refine aw_block ?_) | (refine aw_exit ?_) | (refine aw_ret ⟨.inr rfl, ret_okj hj (by cbv) ?_ ?_⟩) | (refine aw_ret ?_) | (with_reducible refine th_n ?_) | (with_reducible refine th_r ?_) | (with_reducible refine th_x ?_) | (with_reducible refine blk_n ?_) | (with_reducible refine blk_r ?_) | (with_reducible refine blk_x ?_) | (with_reducible refine blk_y rfl ?_) | (refine ⟨.inr rfl, ret_okj hj (by cbv) ?_ ?_⟩) | (refine ⟨.inl rfl, ret_okj hj (by cbv) ?_ ?_⟩) | ((with_reducible refine ⟨(_, _, _, _, _, _, _), by cbv, ?_, ?_⟩)) | ((with_reducible refine ⟨(_, _, _, _, _, _), by cbv, ?_, ?_⟩)) | ((with_reducible refine ⟨(_, _, _, _, _), by cbv, ?_, ?_⟩)) | ((with_reducible refine ⟨(_, _, _, _), by cbv, ?_, ?_⟩)) | ((with_reducible refine ⟨(_, _, _), by cbv, ?_, ?_⟩)) | ((with_reducible refine ⟨(_, _), by cbv, ?_, ?_⟩)) | ((with_reducible refine ⟨_, by cbv, ?_, ?_⟩)) | (with_reducible apply_assumption -symm -exfalso only [*]))
  all_goals ((try subst y_nR); (try subst y_iC); (try subst y_bC); (try subst y_nI); (try subst y_nB); (try subst y_start7); (try subst y_fillB); (try subst y_LC); (try subst y_nRows))
  all_goals (try have q := ‹iAt R i.toNat ≥ 0›)
  all_goals (try have q := ‹¬ iAt R i.toNat ≥ 0›)
  all_goals (try have q2 := ‹bAt L _ = true›)
  all_goals (try have q2 := ‹bAt L _ = false›)
  all_goals (try have q3 := ‹bAt (rowAt M _) _ = true›)
  all_goals (try have q3 := ‹bAt (rowAt M _) _ = false›)
  all_goals (try have hr7 := hrow (by omega))
  all_goals (try (repeat' first | with_reducible exact obl0 | with_reducible refine obl1 ?_ ?_))
  all_goals (try first | with_reducible exact True.intro | ((first | refine ob_le hj ?_ | refine ob_lei hj ?_ | refine ob_inb hj ?_ | refine ob_pos hj ?_ | refine ob_ne0 hj ?_ | refine ob_eqb hj ?_); (first | rfl | first | omega | (simp only [hj, std]; split <;> omega) | (simp (disch := omega) only [hj, std, cmpI, cmpB, satB, add64, sub64, ite0, pl0, pl2, pl3, sb0, if_true, if_false, eq_self, ite0, e1, e2, e3, e4, e5, iC_len, bC_len, LC_len] <;> omega) | (simp (disch := omega) [hj, std, cmpI, cmpB, satB, add64, sub64, ite0, pl0, pl2, pl3, sb0, if_true, if_false, eq_self, ite0, e1, e2, e3, e4, e5, iC_len, bC_len, LC_len] <;> omega))) | ((refine ob_ok hj ?_; simp only [hj, std, ite0, e1, e2, e3, e4, e5]; first | exact ok_iC (by omega) | exact ok_LC (by rw [hM.1]; omega) | exact ok_bC (by omega))) | ((simp (disch := omega) only [hj, std, add64, ite0, e1, e2, e3, e4, e5]; first | omega | exact ⟨by omega, by omega, _, hset (by omega), by rw [hk1]; exact part_set p0 (by omega) q2 (by rw [oneB_nt (by omega)]; exact q3)⟩ | exact ⟨by omega, by omega, _, hset (by omega), by rw [hk1]; exact part_set p0 (by omega) q2 (by rw [oneB_t (by omega)]; exact decide_eq_true (by omega))⟩ | exact ⟨by omega, by omega, W, rfl, by rw [hk1]; exact part_keep p0 (by rw [q2, Bool.false_and])⟩ | exact ⟨by omega, by omega, W, rfl, by rw [hk1]; exact part_keep p0 (by rw [oneB_nt (by omega), q3, Bool.and_false])⟩ | exact ⟨by omega, by omega, W, rfl, by rw [hk1]; exact part_keep p0 (by rw [oneB_t (by omega), decide_eq_false (by omega), Bool.and_false])⟩ | exact ⟨by omega, by omega, trivial, W, rfl, by rw [hn1]; exact part_n p0 (by omega)⟩)))
end Go.Proofs.Ytdmdcmhgfgookaa.A

/- Grammars that are well made: lengths. -/
set_option linter.unusedSimpArgs false
set_option linter.unusedVariables false
set_option maxRecDepth 100000
set_option maxHeartbeats 4000000
namespace Go.Proofs.Ytdmdcmhgfgookaa.A
open Go
theorem mul7 {n : Nat} (h : n ≤ 256) : arithI .mul .i64 7 (n : Int) = 7 * (n : Int) := wrap64 (by omega) (by omega)
theorem fillB_len (M : List (List Bool)) (R : List Int) : (fillB M R).length = 7 := by
  unfold fillB
  have : ∀ (R : List Int) (now : List Bool), now.length = 7 → (R.foldl (nextB M) now).length = 7 := by
    intro R
    induction R with
    | nil => intro now h; exact h
    | cons s R ih => intro now _; exact ih _ (nextB_len _ _ _)
  exact this R start7 rfl
theorem LC_cell {l : List (List Bool)} {k : Nat} (h : k < l.length) : cellAt (LC l) k = .sl (nB (rowAt l k)) (bC (rowAt l k)) := by
  unfold LC; rw [map_at, List.getElem?_eq_getElem h, rowAt, List.getD_eq_getElem?_getD, List.getElem?_eq_getElem h]; rfl
theorem LC_set1 {l : List (List Bool)} {k n : Nat} {b : Bool} (h : k < l.length) (hn : n < (rowAt l k).length) : setC (LC l) k [.sl (nB (rowAt l k)) (setC (bC (rowAt l k)) n [vB b])] = LC (l.set k ((rowAt l k).set n b)) := by
  rw [bC_set _ b hn, ← LC_set l _ h]
  congr 3
  rw [nB_eq, nB_eq, List.length_set]
abbrev shB : Sh := .sl 31 [.sl boolT [.st]]
/-- a row after n of its places -/
def orK (a f : List Bool) (n : Nat) : List Bool := (List.range 7).map fun m => (decide (m < n) && bAt f m) || bAt a m
theorem orK_len (a f : List Bool) (n : Nat) : (orK a f n).length = 7 := by unfold orK; simp
theorem orK_zero {a f : List Bool} (h : a.length = 7) : orK a f 0 = a := by
  refine List.ext_getElem (by rw [orK_len, h]) fun i h1 h2 => ?_
  have h3 : bAt (orK a f 0) i = bAt a i := by unfold orK; rw [map_at7 (by omega)]; simp
  rw [bAt, bAt, List.getD_eq_getElem?_getD, List.getD_eq_getElem?_getD, List.getElem?_eq_getElem h1, List.getElem?_eq_getElem h2] at h3
  exact h3
theorem orK_all (a f : List Bool) : orK a f 7 = orB a f := by
  unfold orK orB
  refine List.map_congr_left fun m hm => ?_
  rw [decide_eq_true (List.mem_range.1 hm), Bool.true_and]
theorem orK_yes {a f : List Bool} {n : Nat} (hn : n < 7) (h : bAt f n = true) : orK a f (n + 1) = (orK a f n).set n true := by
  refine List.ext_getElem (by rw [List.length_set, orK_len, orK_len]) fun i h1 h2 => ?_
  have h3 : bAt (orK a f (n + 1)) i = bAt ((orK a f n).set n true) i := by
    rw [orK_len] at h1
    rw [bAt_setB (by rw [orK_len]; exact hn)]
    unfold orK
    rw [map_at7 h1]
    split
    · rename_i e; subst e; rw [h, decide_eq_true (by omega)]; rfl
    · rename_i e
      rw [map_at7 h1, Bool.eq_iff_iff]
      simp only [Bool.or_eq_true, Bool.and_eq_true, decide_eq_true_eq]
      constructor
      · rintro (⟨h4, h5⟩ | h4)
        · exact .inl ⟨by omega, h5⟩
        · exact .inr h4
      · rintro (⟨h4, h5⟩ | h4)
        · exact .inl ⟨by omega, h5⟩
        · exact .inr h4
  rw [bAt, bAt, List.getD_eq_getElem?_getD, List.getD_eq_getElem?_getD, List.getElem?_eq_getElem h1, List.getElem?_eq_getElem h2] at h3
  exact h3
theorem orK_no {a f : List Bool} {n : Nat} (h : bAt f n = false) : orK a f (n + 1) = orK a f n := by
  unfold orK
  refine List.map_congr_left fun m _ => ?_
  by_cases e : m = n
  · subst e; rw [h, Bool.and_false, Bool.and_false]
  · rw [show decide (m < n + 1) = decide (m < n) from decide_eq_decide.2 (by omega)]
theorem set_set {M : List (List Bool)} {k : Nat} {r r2 : List Bool} : (M.set k r).set k r2 = M.set k r2 := by rw [List.set_set]
theorem set_rowAt {M : List (List Bool)} {k : Nat} (h : k < M.length) : M.set k (rowAt M k) = M := by
  refine List.ext_getElem (by simp) fun i h1 h2 => ?_
  rw [List.getElem_set]
  split
  · rename_i e; subst e; unfold rowAt; rw [List.getD_eq_getElem?_getD, List.getElem?_eq_getElem h]; rfl
  · rfl
theorem row7_rep (N : Nat) : Row7 N (List.replicate N none7) := ⟨by simp, fun r hr => by rw [List.eq_of_mem_replicate hr]; rfl⟩
theorem Row7.set {N : Nat} {M : List (List Bool)} (h : Row7 N M) (k : Nat) {r : List Bool} (hr : r.length = 7) : Row7 N (M.set k r) := ⟨by rw [List.length_set]; exact h.1, fun x hx => by
  rcases List.mem_or_eq_of_mem_set hx with h1 | h1
  · exact h.2 x h1
  · rw [h1]; exact hr⟩
theorem Row7.step {N : Nat} {M : List (List Bool)} (h : Row7 N M) (r : Rl) : Row7 N (stepL M r) := h.set _ (by unfold orB; simp)
theorem Row7.pass {N : Nat} : ∀ (rs : List Rl) {M : List (List Bool)}, Row7 N M → Row7 N (rs.foldl stepL M) := by
  intro rs
  induction rs with
  | nil => intro M h; exact h
  | cons r rs ih => intro M h; exact ih (h.step r)
theorem Row7.it {N : Nat} {rs : List Rl} {M : List (List Bool)} (h : Row7 N M) : ∀ n, Row7 N (itL rs n M) := by
  intro n
  induction n with
  | zero => exact h
  | succ n ih => exact Row7.pass rs ih
theorem passLt_next {rs : List Rl} {i : Int} {L M : List (List Bool)} (h0 : 0 ≤ i) (hi : i < nR rs) (h : M = (rs.take i.toNat).foldl stepL L) : (rs.take (i + 1).toNat).foldl stepL L = stepL M (rAt rs i.toNat) := by
  have := nR_eq rs
  rw [show (i + 1).toNat = i.toNat + 1 by omega, take_snoc (0, []) (by omega), List.foldl_append, ← h]; rfl
theorem passLt_all {rs : List Rl} {i : Int} {L M : List (List Bool)} (hi : ¬ i < nR rs) (h : M = (rs.take i.toNat).foldl stepL L) : M = rs.foldl stepL L := by
  have := nR_eq rs
  rwa [List.take_of_length_le (by omega)] at h
def lrowsOf (cs : List C) : List (List Bool) := cs.map fun c => boolsOf (gc c)
theorem lrowsOf_LC (l : List (List Bool)) : lrowsOf (LC l) = l := by
  unfold lrowsOf LC
  rw [List.map_map]
  refine (List.map_congr_left fun r _ => ?_).trans (List.map_id' l)
  exact boolsOf_bC r
def bookLe (x_intsOf : List C → List Int) (x_bC : List Bool → List C) (x_fillB : List (List Bool) → List Int → List Bool) (x_lrowsOf : List C → List (List Bool)) : Book := fun f xs => match f, xs with
  | 48, [.v false [.sl _ a], .v false [.sl _ b]] => some (ret1 (.own boolT 7 (x_bC (x_fillB (x_lrowsOf a) (x_intsOf b)))))
  | _, _ => none
theorem c_fill {M : List (List Bool)} {R : List Int} {n m : Nat} {N : Nat} (hn : n = nRows M) (hm : m = nI R) (hM : Row7 N M) (hN : N ≤ 1000000) (hR : nI R ≤ 1000000) (hs : ∀ s ∈ R, s < N) : pc 48 [.v false [.sl n (LC M)], .v false [.sl m (iC R)]] (ret1 (.own boolT 7 (bC (fillB (lrowsOf (LC M)) (intsOf (iC R)))))) := by
  subst hn; subst hm
  rw [lrowsOf_LC, intsOf_iC]
  exact ⟨enters Try.func48 (by kernel_rfl) (by kernel_rfl), pc_fill M R N hM hN hR hs⟩
theorem c_fill2 {M : List (List Bool)} {R : List Int} {m : Nat} {cs : List C} {N : Nat} (hm : m = nI R) (hcs : cs = iC R) (hM : Row7 N M) (hN : N ≤ 1000000) (hR : nI R ≤ 1000000) (hs : ∀ s ∈ R, s < N) : pc 48 [.v false [.sl (nRows M) (LC M)], .v false [.sl m cs]] (ret1 (.own boolT 7 (bC (fillB (lrowsOf (LC M)) (intsOf cs))))) := by
  subst hcs
  exact c_fill rfl hm hM hN hR hs
theorem pc_lengths (ns ts : List ByteArray) (rs : List Rl) (hS : Sml ns ts rs) (hv : validG ns ts rs = true) : PC Try.prog T 21 [.v true [(C.sl (nS ns) (sC ns)), (C.sl (nS ts) (sC ts)), (C.sl (nR rs) (rC rs))]] (ret1 (.tree shB (.sl (nRows (lensG ns rs)) (LC (lensG ns rs))) none)) [] := by
  have ha := hS.n; have hb := hS.t; have hc := hS.r
  have nr := nR_eq rs
  have h256 := (validG_iff.1 hv).1.2.1
  refine pc_of tok Try.func21 rfl (by rfl) ?_
  obtain ⟨j, hj⟩ : ∃ j : J, j = std Try.prog T := ⟨_, rfl⟩
  have hm : Try.prog.follows .mixedOrders = true := by kernel_rfl
  generalize y_intsOf : @intsOf = x_intsOf at *
  generalize y_bC : @bC = x_bC at *
  generalize y_fillB : @fillB = x_fillB at *
  generalize y_lrowsOf : @lrowsOf = x_lrowsOf at *
  generalize y_rC : @rC = x_rC at *
  generalize y_nR : @nR = x_nR at *
  generalize y_validG : @validG = x_validG at *
  generalize y_sC : @sC = x_sC at *
  generalize y_iC : @iC = x_iC at *
  generalize y_nS : @nS = x_nS at *
  generalize y_nI : @nI = x_nI at *
  generalize y_nB : @nB = x_nB at *
  generalize y_none7 : @none7 = x_none7 at *
  generalize y_lensG : @lensG = x_lensG at *
  generalize y_LC : @LC = x_LC at *
  generalize y_nRows : @nRows = x_nRows at *
  (repeat' first | ((first | with_reducible refine tr_cut (fun h => ?_) (fun h => ?_) | refine aw_condj (by cbv) (fun h => ?_) (fun h => ?_)) <;> (try simp (disch := omega) only [hj, std, cmpI, cmpB, satB, Bool.not_eq_true, Bool.not_eq_false, decide_eq_true_eq, decide_eq_false_iff_not, beq_iff_eq, bne_iff_ne, bne_eq_false_iff_eq, beq_eq_false_iff_ne, ne_eq, reduceCtorEq, not_true_eq_false, not_false_eq_true, pl0, if_true, cmpS_eq, cmpS_neq, Bool.not_eq_eq_eq_not, Bool.not_true, Bool.not_false, Bool.not_eq_true', add64, sub64] at h) <;> (try (exfalso; omega))) | (with_reducible refine tr_alt (fun h => ?_) ?_ <;> (try (exfalso; omega))) | (with_reducible refine tr_ob ?_ ?_) | (with_reducible refine tr_done ?_) | (refine aw_tr hj tok (bookLe x_intsOf x_bC x_fillB x_lrowsOf) (by cbv) ?_) | (refine aw_seq fun K hK => ?_) | (refine aw_tr1 hj tok (bookLe x_intsOf x_bC x_fillB x_lrowsOf) (by cbv) ?_) | (refine aw_skip ?_) | (refine aw_block ?_) | (refine aw_exit ?_) | (refine aw_ret ⟨.inr rfl, ret_okj hj (by cbv) ?_ ?_⟩) | (refine aw_ret ?_) | (with_reducible refine th_n ?_) | (with_reducible refine th_r ?_) | (with_reducible refine th_x ?_) | (with_reducible refine blk_n ?_) | (with_reducible refine blk_r ?_) | (with_reducible refine blk_x ?_) | (with_reducible refine blk_y rfl ?_) | (refine ⟨.inr rfl, ret_okj hj (by cbv) ?_ ?_⟩) | (refine ⟨.inl rfl, ret_okj hj (by cbv) ?_ ?_⟩) | ((with_reducible refine ⟨(_, _, _, _, _, _, _), by cbv, ?_, ?_⟩)) | ((with_reducible refine ⟨(_, _, _, _, _, _), by cbv, ?_, ?_⟩)) | ((with_reducible refine ⟨(_, _, _, _, _), by cbv, ?_, ?_⟩)) | ((with_reducible refine ⟨(_, _, _, _), by cbv, ?_, ?_⟩)) | ((with_reducible refine ⟨(_, _, _), by cbv, ?_, ?_⟩)) | ((with_reducible refine ⟨(_, _), by cbv, ?_, ?_⟩)) | ((with_reducible refine ⟨_, by cbv, ?_, ?_⟩)) | (with_reducible apply_assumption -symm -exfalso only [*]))
  all_goals ((try subst y_intsOf); (try subst y_bC); (try subst y_fillB); (try subst y_lrowsOf); (try subst y_rC); (try subst y_nR); (try subst y_validG); (try subst y_sC); (try subst y_iC); (try subst y_nS); (try subst y_nI); (try subst y_nB); (try subst y_none7); (try subst y_lensG); (try subst y_LC); (try subst y_nRows))
  all_goals (try (repeat' first | with_reducible exact obl0 | with_reducible refine obl1 ?_ ?_))
  all_goals (try first | with_reducible exact True.intro | ((first | refine ob_le hj ?_ | refine ob_lei hj ?_ | refine ob_inb hj ?_ | refine ob_pos hj ?_ | refine ob_ne0 hj ?_ | refine ob_eqb hj ?_); (first | rfl | first | omega | (simp only [hj, std]; split <;> omega) | (simp (disch := omega) only [hj, std, cmpI, cmpB, satB, add64, sub64, ite0, pl0, pl2, pl3, sb0, if_true, if_false, eq_self] <;> omega) | (simp (disch := omega) [hj, std, cmpI, cmpB, satB, add64, sub64, ite0, pl0, pl2, pl3, sb0, if_true, if_false, eq_self] <;> omega))))
  refine aw_lpj hj [(1, .keep), (3, .tree shB), (4, .keep)] [1] (fun (⟨i, m, cs⟩ : Int × Nat × (List C)) => stOf 64 [(1, .one (.ptr 1 0)), (3, .one (.tv 3 0 [])), (4, .one (.c (vI i)))] [(3, .loose [.tree shB ((.sl m cs)) none]), (1, .box [.st ((C.sl (nS ns) (sC ns))), .st ((C.sl (nS ts) (sC ts))), .st ((C.sl (nR rs) (rC rs)))])]) (fun (⟨i, m, cs⟩ : Int × Nat × (List C)) => nS ns - i.toNat) (fun (⟨i, m, cs⟩ : Int × Nat × (List C)) => 0 ≤ i ∧ i ≤ nS ns ∧ ∃ M : List (List Bool), m = nRows M ∧ cs = LC M ∧ M = List.replicate i.toNat none7) ((0, 0, [])) (by generalize @intsOf = x_intsOf; generalize @bC = x_bC; generalize @fillB = x_fillB; generalize @lrowsOf = x_lrowsOf; generalize @rC = x_rC; generalize @nR = x_nR; generalize @validG = x_validG; generalize @sC = x_sC; generalize @iC = x_iC; generalize @nS = x_nS; generalize @nI = x_nI; generalize @nB = x_nB; generalize @none7 = x_none7; generalize @lensG = x_lensG; generalize @LC = x_LC; generalize @nRows = x_nRows; cbv) ?_ (fun ⟨i, m, cs⟩ hI => ?_)
  · exact ⟨by omega, by omega, [], rfl, rfl, rfl⟩
  obtain ⟨i1, i2, M, rfl, rfl, m0⟩ := hI
  have hM : M.length = i.toNat := by rw [m0, List.length_replicate]
  have nM := nRows_eq M
  have hrep : (M ++ [none7]) = List.replicate (i + 1).toNat none7 := by rw [m0, show (i + 1).toNat = i.toNat + 1 by omega, List.replicate_succ']
  have happ : LC M ++ [C.sl 7 (repC 7 [vB false])] = LC (M ++ [none7]) := LC_snoc M none7
  have hlen : nRows M + 1 = nRows (M ++ [none7]) := by rw [nRows_eq, nRows_eq, List.length_append]; rfl
  generalize y_intsOf : @intsOf = x_intsOf at *
  generalize y_bC : @bC = x_bC at *
  generalize y_fillB : @fillB = x_fillB at *
  generalize y_lrowsOf : @lrowsOf = x_lrowsOf at *
  generalize y_rC : @rC = x_rC at *
  generalize y_nR : @nR = x_nR at *
  generalize y_validG : @validG = x_validG at *
  generalize y_sC : @sC = x_sC at *
  generalize y_iC : @iC = x_iC at *
  generalize y_nS : @nS = x_nS at *
  generalize y_nI : @nI = x_nI at *
  generalize y_nB : @nB = x_nB at *
  generalize y_none7 : @none7 = x_none7 at *
  generalize y_lensG : @lensG = x_lensG at *
  generalize y_LC : @LC = x_LC at *
  generalize y_nRows : @nRows = x_nRows at *
  (repeat' first | ((first | with_reducible refine tr_cut (fun h => ?_) (fun h => ?_) | refine aw_condj (by cbv) (fun h => ?_) (fun h => ?_)) <;> (try simp (disch := omega) only [hj, std, cmpI, cmpB, satB, Bool.not_eq_true, Bool.not_eq_false, decide_eq_true_eq, decide_eq_false_iff_not, beq_iff_eq, bne_iff_ne, bne_eq_false_iff_eq, beq_eq_false_iff_ne, ne_eq, reduceCtorEq, not_true_eq_false, not_false_eq_true, pl0, if_true, cmpS_eq, cmpS_neq, Bool.not_eq_eq_eq_not, Bool.not_true, Bool.not_false, Bool.not_eq_true', add64, sub64] at h) <;> (try (exfalso; omega))) | (with_reducible refine tr_alt (fun h => ?_) ?_ <;> (try (exfalso; omega))) | (with_reducible refine tr_ob ?_ ?_) | (with_reducible refine tr_done ?_) | (refine aw_tr hj tok (bookLe x_intsOf x_bC x_fillB x_lrowsOf) (by cbv) ?_) | (refine aw_seq fun K hK => ?_) | (refine aw_tr1 hj tok (bookLe x_intsOf x_bC x_fillB x_lrowsOf) (by cbv) ?_) | (refine aw_skip ?_) | (refine aw_block ?_) | (refine aw_exit ?_) | (refine aw_ret ⟨.inr rfl, ret_okj hj (by cbv) ?_ ?_⟩) | (refine aw_ret ?_) | (with_reducible refine th_n ?_) | (with_reducible refine th_r ?_) | (with_reducible refine th_x ?_) | (with_reducible refine blk_n ?_) | (with_reducible refine blk_r ?_) | (with_reducible refine blk_x ?_) | (with_reducible refine blk_y rfl ?_) | (refine ⟨.inr rfl, ret_okj hj (by cbv) ?_ ?_⟩) | (refine ⟨.inl rfl, ret_okj hj (by cbv) ?_ ?_⟩) | ((with_reducible refine ⟨(_, _, _, _, _, _, _), by cbv, ?_, ?_⟩)) | ((with_reducible refine ⟨(_, _, _, _, _, _), by cbv, ?_, ?_⟩)) | ((with_reducible refine ⟨(_, _, _, _, _), by cbv, ?_, ?_⟩)) | ((with_reducible refine ⟨(_, _, _, _), by cbv, ?_, ?_⟩)) | ((with_reducible refine ⟨(_, _, _), by cbv, ?_, ?_⟩)) | ((with_reducible refine ⟨(_, _), by cbv, ?_, ?_⟩)) | ((with_reducible refine ⟨_, by cbv, ?_, ?_⟩)) | (with_reducible apply_assumption -symm -exfalso only [*]))
  all_goals ((try subst y_intsOf); (try subst y_bC); (try subst y_fillB); (try subst y_lrowsOf); (try subst y_rC); (try subst y_nR); (try subst y_validG); (try subst y_sC); (try subst y_iC); (try subst y_nS); (try subst y_nI); (try subst y_nB); (try subst y_none7); (try subst y_lensG); (try subst y_LC); (try subst y_nRows))
  all_goals (try (repeat' first | with_reducible exact obl0 | with_reducible refine obl1 ?_ ?_))
  all_goals (try first | with_reducible exact True.intro | ((first | refine ob_le hj ?_ | refine ob_lei hj ?_ | refine ob_inb hj ?_ | refine ob_pos hj ?_ | refine ob_ne0 hj ?_ | refine ob_eqb hj ?_); (first | rfl | first | omega | (simp only [hj, std]; split <;> omega) | (simp (disch := omega) only [hj, std, cmpI, cmpB, satB, add64, sub64, ite0, pl0, pl2, pl3, sb0, if_true, if_false, eq_self, LC_len] <;> omega) | (simp (disch := omega) [hj, std, cmpI, cmpB, satB, add64, sub64, ite0, pl0, pl2, pl3, sb0, if_true, if_false, eq_self, LC_len] <;> omega))) | ((simp (disch := omega) only [hj, std, add64, ite0]; first | omega | exact ⟨by omega, by omega, M ++ [none7], hlen, happ, hrep⟩)))
  have hM0 : M = List.replicate (nS ns) none7 := by rw [m0, show i.toNat = nS ns by omega]
  have h7 := row7_rep (nS ns)
  rw [hM0]
  clear hM0 happ hlen hrep nM hM m0
  generalize hZ : List.replicate (nS ns) none7 = Z at *
  have hr := okR_of hv
  refine aw_lpj hj [(1, .keep), (3, .tree shB), (5, .keep)] [1] (fun (⟨d, m, cs⟩ : Int × Nat × (List C)) => stOf 64 [(1, .one (.ptr 1 0)), (3, .one (.tv 3 0 [])), (5, .one (.c (vI d)))] [(3, .loose [.tree shB ((.sl m cs)) none]), (1, .box [.st ((C.sl (nS ns) (sC ns))), .st ((C.sl (nS ts) (sC ts))), .st ((C.sl (nR rs) (rC rs)))])]) (fun (⟨d, m, cs⟩ : Int × Nat × (List C)) => 7 * nS ns + 1 - d.toNat) (fun (⟨d, m, cs⟩ : Int × Nat × (List C)) => 0 ≤ d ∧ d ≤ 7 * nS ns + 1 ∧ ∃ M : List (List Bool), m = nRows M ∧ cs = LC M ∧ M = itL rs d.toNat Z) ((0, nRows Z, LC Z)) (by generalize @intsOf = x_intsOf; generalize @bC = x_bC; generalize @fillB = x_fillB; generalize @lrowsOf = x_lrowsOf; generalize @rC = x_rC; generalize @nR = x_nR; generalize @validG = x_validG; generalize @sC = x_sC; generalize @iC = x_iC; generalize @nS = x_nS; generalize @nI = x_nI; generalize @nB = x_nB; generalize @none7 = x_none7; generalize @lensG = x_lensG; generalize @LC = x_LC; generalize @nRows = x_nRows; cbv) ?_ (fun ⟨d, m, cs⟩ hI => ?_)
  · exact ⟨by omega, by omega, Z, rfl, rfl, rfl⟩
  clear i1 i2
  obtain ⟨d1, d2, M, rfl, rfl, m0⟩ := hI
  have hM : Row7 (nS ns) M := by rw [m0]; exact h7.it _
  have hend : ¬ d < 7 * nS ns + 1 → M = lensG ns rs := fun h => by unfold lensG; rw [hZ, m0, show d.toNat = 7 * nS ns + 1 by omega]
  have hmul : arithI .mul .i64 7 (nS ns) = 7 * nS ns := mul7 (by omega)
  generalize y_intsOf : @intsOf = x_intsOf at *
  generalize y_bC : @bC = x_bC at *
  generalize y_fillB : @fillB = x_fillB at *
  generalize y_lrowsOf : @lrowsOf = x_lrowsOf at *
  generalize y_rC : @rC = x_rC at *
  generalize y_nR : @nR = x_nR at *
  generalize y_validG : @validG = x_validG at *
  generalize y_sC : @sC = x_sC at *
  generalize y_iC : @iC = x_iC at *
  generalize y_nS : @nS = x_nS at *
  generalize y_nI : @nI = x_nI at *
  generalize y_nB : @nB = x_nB at *
  generalize y_none7 : @none7 = x_none7 at *
  generalize y_lensG : @lensG = x_lensG at *
  generalize y_LC : @LC = x_LC at *
  generalize y_nRows : @nRows = x_nRows at *
  (repeat' first | ((first | with_reducible refine tr_cut (fun h => ?_) (fun h => ?_) | refine aw_condj (by cbv) (fun h => ?_) (fun h => ?_)) <;> (try simp (disch := omega) only [hj, std, cmpI, cmpB, satB, Bool.not_eq_true, Bool.not_eq_false, decide_eq_true_eq, decide_eq_false_iff_not, beq_iff_eq, bne_iff_ne, bne_eq_false_iff_eq, beq_eq_false_iff_ne, ne_eq, reduceCtorEq, not_true_eq_false, not_false_eq_true, pl0, if_true, cmpS_eq, cmpS_neq, Bool.not_eq_eq_eq_not, Bool.not_true, Bool.not_false, Bool.not_eq_true', hmul, add64, sub64] at h) <;> (try (exfalso; omega))) | (with_reducible refine tr_alt (fun h => ?_) ?_ <;> (try (exfalso; omega))) | (with_reducible refine tr_ob ?_ ?_) | (with_reducible refine tr_done ?_) | (refine aw_tr hj tok (bookLe x_intsOf x_bC x_fillB x_lrowsOf) (by cbv) ?_) | (refine aw_seq fun K hK => ?_) | (refine aw_tr1 hj tok (bookLe x_intsOf x_bC x_fillB x_lrowsOf) (by cbv) ?_) | (refine aw_skip ?_) | (refine aw_block ?_) | (refine aw_exit ?_) | (refine aw_ret ⟨.inr rfl, ret_okj hj (by cbv) ?_ ?_⟩) | (refine aw_ret ?_) | (with_reducible refine th_n ?_) | (with_reducible refine th_r ?_) | (with_reducible refine th_x ?_) | (with_reducible refine blk_n ?_) | (with_reducible refine blk_r ?_) | (with_reducible refine blk_x ?_) | (with_reducible refine blk_y rfl ?_) | (refine ⟨.inr rfl, ret_okj hj (by cbv) ?_ ?_⟩) | (refine ⟨.inl rfl, ret_okj hj (by cbv) ?_ ?_⟩) | ((with_reducible refine ⟨(_, _, _, _, _, _, _), by cbv, ?_, ?_⟩)) | ((with_reducible refine ⟨(_, _, _, _, _, _), by cbv, ?_, ?_⟩)) | ((with_reducible refine ⟨(_, _, _, _, _), by cbv, ?_, ?_⟩)) | ((with_reducible refine ⟨(_, _, _, _), by cbv, ?_, ?_⟩)) | ((with_reducible refine ⟨(_, _, _), by cbv, ?_, ?_⟩)) | ((with_reducible refine ⟨(_, _), by cbv, ?_, ?_⟩)) | ((with_reducible refine ⟨_, by cbv, ?_, ?_⟩)) | (with_reducible apply_assumption -symm -exfalso only [*]))
  all_goals ((try subst y_intsOf); (try subst y_bC); (try subst y_fillB); (try subst y_lrowsOf); (try subst y_rC); (try subst y_nR); (try subst y_validG); (try subst y_sC); (try subst y_iC); (try subst y_nS); (try subst y_nI); (try subst y_nB); (try subst y_none7); (try subst y_lensG); (try subst y_LC); (try subst y_nRows))
  all_goals (try (repeat' first | with_reducible exact obl0 | with_reducible refine obl1 ?_ ?_))
  all_goals (try first | with_reducible exact True.intro | ((first | refine ob_le hj ?_ | refine ob_lei hj ?_ | refine ob_inb hj ?_ | refine ob_pos hj ?_ | refine ob_ne0 hj ?_ | refine ob_eqb hj ?_); (first | rfl | first | omega | (simp only [hj, std]; split <;> omega) | (simp (disch := omega) only [hj, std, cmpI, cmpB, satB, add64, sub64, ite0, pl0, pl2, pl3, sb0, if_true, if_false, eq_self] <;> omega) | (simp (disch := omega) [hj, std, cmpI, cmpB, satB, add64, sub64, ite0, pl0, pl2, pl3, sb0, if_true, if_false, eq_self] <;> omega))) | ((refine (ret1_c ?_).symm; rw [hend (by omega)])))
  have hd : d < 7 * nS ns + 1 := by assumption
  refine aw_lpj hj [(1, .keep), (3, .tree shB), (5, .keep), (6, .keep)] [1] (fun (⟨i, m, cs⟩ : Int × Nat × (List C)) => stOf 64 [(1, .one (.ptr 1 0)), (3, .one (.tv 3 0 [])), (5, .one (.c (vI d))), (6, .one (.c (vI i)))] [(3, .loose [.tree shB ((.sl m cs)) none]), (1, .box [.st ((C.sl (nS ns) (sC ns))), .st ((C.sl (nS ts) (sC ts))), .st ((C.sl (nR rs) (rC rs)))])]) (fun (⟨i, m, cs⟩ : Int × Nat × (List C)) => nR rs - i.toNat) (fun (⟨i, m, cs⟩ : Int × Nat × (List C)) => 0 ≤ i ∧ i ≤ nR rs ∧ ∃ X : List (List Bool), m = nRows X ∧ cs = LC X ∧ X = (rs.take i.toNat).foldl stepL M) ((0, nRows M, LC M)) (by generalize @intsOf = x_intsOf; generalize @bC = x_bC; generalize @fillB = x_fillB; generalize @lrowsOf = x_lrowsOf; generalize @rC = x_rC; generalize @nR = x_nR; generalize @validG = x_validG; generalize @sC = x_sC; generalize @iC = x_iC; generalize @nS = x_nS; generalize @nI = x_nI; generalize @nB = x_nB; generalize @none7 = x_none7; generalize @lensG = x_lensG; generalize @LC = x_LC; generalize @nRows = x_nRows; cbv) ?_ (fun ⟨i, m, cs⟩ hI => ?_)
  · exact ⟨by omega, by omega, M, rfl, rfl, rfl⟩
  obtain ⟨i1, i2, X, rfl, rfl, y0⟩ := hI
  have hX : Row7 (nS ns) X := by rw [y0]; exact hM.pass _
  have hout : ¬ i < nR rs → X = itL rs (d + 1).toNat Z := fun h => by
    rw [show (d + 1).toNat = d.toNat + 1 by omega, itL, ← m0]; exact passLt_all h y0
  have e1 : gi (cellAt (rC rs) (i.toNat * 2)) = (rAt rs i.toNat).1 := gi_rC _ _
  have e2 : gn (cellAt (rC rs) (i.toNat * 2 + 1)) = nI (rAt rs i.toNat).2 := gn_rC _ _
  have e3 : gc (cellAt (rC rs) (i.toNat * 2 + 1)) = iC (rAt rs i.toNat).2 := gc_rC _ _
  have e2' : gn (cellAt (rC rs) (if i.toNat * 2 = 0 then 1 else i.toNat * 2 + 1)) = nI (rAt rs i.toNat).2 := by rw [ite0]; exact e2
  have e3' : gc (cellAt (rC rs) (if i.toNat * 2 = 0 then 1 else i.toNat * 2 + 1)) = iC (rAt rs i.toNat).2 := by rw [ite0]; exact e3
  have hstep : i < nR rs → (rs.take (i + 1).toNat).foldl stepL M = stepL X (rAt rs i.toNat) := fun h => passLt_next i1 h y0
  have hR : i < nR rs → nI (rAt rs i.toNat).2 ≤ 1000000 := fun h => hS.i _ (rAt_mem rs i i1 h)
  have hRs : i < nR rs → OkR (nS ns) (rAt rs i.toNat) := fun h => hr _ (rAt_mem rs i i1 h)
  generalize y_intsOf : @intsOf = x_intsOf at *
  generalize y_bC : @bC = x_bC at *
  generalize y_fillB : @fillB = x_fillB at *
  generalize y_lrowsOf : @lrowsOf = x_lrowsOf at *
  generalize y_rC : @rC = x_rC at *
  generalize y_nR : @nR = x_nR at *
  generalize y_validG : @validG = x_validG at *
  generalize y_sC : @sC = x_sC at *
  generalize y_iC : @iC = x_iC at *
  generalize y_nS : @nS = x_nS at *
  generalize y_nI : @nI = x_nI at *
  generalize y_nB : @nB = x_nB at *
  generalize y_none7 : @none7 = x_none7 at *
  generalize y_lensG : @lensG = x_lensG at *
  generalize y_LC : @LC = x_LC at *
  generalize y_nRows : @nRows = x_nRows at *
  (repeat' first | ((first | with_reducible refine tr_cut (fun h => ?_) (fun h => ?_) | refine aw_condj (by cbv) (fun h => ?_) (fun h => ?_)) <;> (try simp (disch := omega) only [hj, std, cmpI, cmpB, satB, Bool.not_eq_true, Bool.not_eq_false, decide_eq_true_eq, decide_eq_false_iff_not, beq_iff_eq, bne_iff_ne, bne_eq_false_iff_eq, beq_eq_false_iff_ne, ne_eq, reduceCtorEq, not_true_eq_false, not_false_eq_true, pl0, if_true, cmpS_eq, cmpS_neq, Bool.not_eq_eq_eq_not, Bool.not_true, Bool.not_false, Bool.not_eq_true', add64, sub64] at h) <;> (try (exfalso; omega))) | (with_reducible refine tr_alt (fun h => ?_) ?_ <;> (try (exfalso; omega))) | (with_reducible refine tr_ob ?_ ?_) | (with_reducible refine tr_done ?_) | (refine aw_tr hj tok (bookLe x_intsOf x_bC x_fillB x_lrowsOf) (by cbv) ?_) | (refine aw_seq fun K hK => ?_) | (refine aw_tr1 hj tok (bookLe x_intsOf x_bC x_fillB x_lrowsOf) (by cbv) ?_) | (refine aw_skip ?_) | (refine aw_block ?_) | (refine aw_exit ?_) | (refine aw_ret ⟨.inr rfl, ret_okj hj (by cbv) ?_ ?_⟩) | (refine aw_ret ?_) | (with_reducible refine th_n ?_) | (with_reducible refine th_r ?_) | (with_reducible refine th_x ?_) | (with_reducible refine blk_n ?_) | (with_reducible refine blk_r ?_) | (with_reducible refine blk_x ?_) | (with_reducible refine blk_y rfl ?_) | (refine ⟨.inr rfl, ret_okj hj (by cbv) ?_ ?_⟩) | (refine ⟨.inl rfl, ret_okj hj (by cbv) ?_ ?_⟩) | ((with_reducible refine ⟨(_, _, _, _, _, _, _), by cbv, ?_, ?_⟩)) | ((with_reducible refine ⟨(_, _, _, _, _, _), by cbv, ?_, ?_⟩)) | ((with_reducible refine ⟨(_, _, _, _, _), by cbv, ?_, ?_⟩)) | ((with_reducible refine ⟨(_, _, _, _), by cbv, ?_, ?_⟩)) | ((with_reducible refine ⟨(_, _, _), by cbv, ?_, ?_⟩)) | ((with_reducible refine ⟨(_, _), by cbv, ?_, ?_⟩)) | ((with_reducible refine ⟨_, by cbv, ?_, ?_⟩)) | (with_reducible apply_assumption -symm -exfalso only [*]))
  all_goals ((try subst y_intsOf); (try subst y_bC); (try subst y_fillB); (try subst y_lrowsOf); (try subst y_rC); (try subst y_nR); (try subst y_validG); (try subst y_sC); (try subst y_iC); (try subst y_nS); (try subst y_nI); (try subst y_nB); (try subst y_none7); (try subst y_lensG); (try subst y_LC); (try subst y_nRows))
  all_goals (try (repeat' first | with_reducible exact obl0 | with_reducible refine obl1 ?_ ?_))
  all_goals (try first | with_reducible exact True.intro | (refine ob_pc hj ?_; (try rw [hj]); first | exact c_fill2 (R := (rAt rs i.toNat).2) e2' e3' hX ha (hR (by omega)) (hRs (by omega)).s) | (refine ob_pcn hj ?_; (try rw [hj]); first | exact c_fill2 (R := (rAt rs i.toNat).2) e2' e3' hX ha (hR (by omega)) (hRs (by omega)).s) | ((first | refine ob_le hj ?_ | refine ob_lei hj ?_ | refine ob_inb hj ?_ | refine ob_pos hj ?_ | refine ob_ne0 hj ?_ | refine ob_eqb hj ?_); (first | rfl | first | omega | (simp only [hj, std]; split <;> omega) | (simp (disch := omega) only [hj, std, cmpI, cmpB, satB, add64, sub64, ite0, pl0, pl2, pl3, sb0, if_true, if_false, eq_self, rC_len] <;> omega) | (simp (disch := omega) [hj, std, cmpI, cmpB, satB, add64, sub64, ite0, pl0, pl2, pl3, sb0, if_true, if_false, eq_self, rC_len] <;> omega))) | ((refine ob_ok hj ?_; simp only [hj, std, ite0, e1, e2, e3]; exact ok_rC1 (by omega))) | ((refine ob_vals hj ?_; exact bC_vals _)) | ((simp (disch := omega) only [hj, std, add64]; first | omega | exact ⟨by omega, by omega, X, rfl, rfl, hout (by omega)⟩)))
  have hil : i < nR rs := by assumption
  have ok := hRs hil
  have l0 := ok.l0; have l1 := ok.l1
  have hst := hstep hil
  have hF : intsOf (gc (cellAt (rC rs) (i.toNat * 2 + 1))) = (rAt rs i.toNat).2 := by rw [e3, intsOf_iC]
  have hLX : lrowsOf (LC X) = X := lrowsOf_LC X
  generalize hA : rAt rs i.toNat = A at *
  refine aw_lpj hj [(1, .keep), (3, .tree shB), (5, .keep), (6, .keep), (7, .own boolT), (8, .keep)] [1] (fun (⟨n, m, cs, fs⟩ : Int × Nat × (List C) × (List C)) => stOf 64 [(1, .one (.ptr 1 0)), (3, .one (.tv 3 0 [])), (5, .one (.c (vI d))), (6, .one (.c (vI i))), (7, .one (.view 7 0)), (8, .one (.c (vI n)))] [(3, .loose [.tree shB ((.sl m cs)) none]), (7, .loose [.own boolT 7 fs]), (1, .box [.st ((C.sl (nS ns) (sC ns))), .st ((C.sl (nS ts) (sC ts))), .st ((C.sl (nR rs) (rC rs)))])]) (fun (⟨n, m, cs, fs⟩ : Int × Nat × (List C) × (List C)) => 7 - n.toNat) (fun (⟨n, m, cs, fs⟩ : Int × Nat × (List C) × (List C)) => 0 ≤ n ∧ n ≤ 7 ∧ fs = bC (fillB X A.2) ∧ ∃ Y : List (List Bool), m = nRows Y ∧ cs = LC Y ∧ Y = X.set A.1.toNat (orK (rowAt X A.1.toNat) (fillB X A.2) n.toNat)) ((0, nRows X, LC X, bC (fillB (lrowsOf (LC X)) (intsOf (j.gc (j.cell (rC rs) (if j.mul (j.toNat i) 2 = 0 then 1 else j.add (j.mul (j.toNat i) 2) 1))))))) (by generalize @intsOf = x_intsOf; generalize @bC = x_bC; generalize @fillB = x_fillB; generalize @lrowsOf = x_lrowsOf; generalize @rC = x_rC; generalize @nR = x_nR; generalize @validG = x_validG; generalize @sC = x_sC; generalize @iC = x_iC; generalize @nS = x_nS; generalize @nI = x_nI; generalize @nB = x_nB; generalize @none7 = x_none7; generalize @lensG = x_lensG; generalize @LC = x_LC; generalize @nRows = x_nRows; cbv) ?_ (fun ⟨n, m, cs, fs⟩ hI => ?_)
  · refine ⟨by omega, by omega, ?_, X, rfl, rfl, ?_⟩
    · rw [hj]
      show bC (fillB (lrowsOf (LC X)) (intsOf (gc (cellAt (rC rs) (if i.toNat * 2 = 0 then 1 else i.toNat * 2 + 1))))) = _
      rw [hLX, e3', intsOf_iC]
    · show X = X.set _ (orK _ _ 0)
      rw [orK_zero (hX.at (by omega)), set_rowAt (by rw [hX.1]; omega)]
  obtain ⟨n1, n2, rfl, Y, rfl, rfl, z0⟩ := hI
  have hY : Row7 (nS ns) Y := by rw [z0]; exact hX.set _ (orK_len _ _ _)
  have hxl : A.1.toNat < X.length := by rw [hX.1]; omega
  have hyl : A.1.toNat < Y.length := by rw [hY.1]; omega
  have rowY : rowAt Y A.1.toNat = orK (rowAt X A.1.toNat) (fillB X A.2) n.toNat := by rw [z0, rowAt_set hxl, if_pos rfl]
  have row7 := hY.at (k := A.1.toNat) (by omega)
  have nrow := nB_eq (rowAt Y A.1.toNat)
  have nY := nRows_eq Y
  have e4 : gb (cellAt (bC (fillB X A.2)) n.toNat) = bAt (fillB X A.2) n.toNat := gb_bC _ _
  have e5 : gn (cellAt (LC Y) A.1.toNat) = nB (rowAt Y A.1.toNat) := gn_LC _ _
  have e6 : gc (cellAt (LC Y) A.1.toNat) = bC (rowAt Y A.1.toNat) := gc_LC _ _
  have hn1 : (n + 1).toNat = n.toNat + 1 := by omega
  have hfin : ¬ n < 7 → Y = (rs.take (i + 1).toNat).foldl stepL M := fun h => by
    rw [hst, z0, show n.toNat = 7 by omega, orK_all]; rfl
  have nF := fillB_len X A.2
  have nF2 := nB_eq (fillB X A.2)
  have hcell : cellAt (LC Y) A.1.toNat = .sl (nB (rowAt Y A.1.toNat)) (bC (rowAt Y A.1.toNat)) := LC_cell hyl
  have hset : n < 7 → setC (LC Y) A.1.toNat [.sl (nB (rowAt Y A.1.toNat)) (setC (bC (rowAt Y A.1.toNat)) n.toNat [vB true])] = LC (Y.set A.1.toNat ((rowAt Y A.1.toNat).set n.toNat true)) := fun h => LC_set1 hyl (by omega)
  have hyes : n < 7 → bAt (fillB X A.2) n.toNat = true → Y.set A.1.toNat ((rowAt Y A.1.toNat).set n.toNat true) = X.set A.1.toNat (orK (rowAt X A.1.toNat) (fillB X A.2) (n + 1).toNat) := fun h h2 => by
    rw [hn1, orK_yes (by omega) h2, rowY, z0, List.set_set]
  have hno : bAt (fillB X A.2) n.toNat = false → Y = X.set A.1.toNat (orK (rowAt X A.1.toNat) (fillB X A.2) (n + 1).toNat) := fun h2 => by
    rw [hn1, orK_no h2]; exact z0
  have hrn : ∀ k : Nat, nRows (Y.set k ((rowAt Y A.1.toNat).set n.toNat true)) = nRows Y := fun k => by rw [nRows_eq, nRows_eq, List.length_set]
  have ky : nRows Y = nS ns := by rw [nY]; exact hY.1
  generalize y_intsOf : @intsOf = x_intsOf at *
  generalize y_bC : @bC = x_bC at *
  generalize y_fillB : @fillB = x_fillB at *
  generalize y_lrowsOf : @lrowsOf = x_lrowsOf at *
  generalize y_rC : @rC = x_rC at *
  generalize y_nR : @nR = x_nR at *
  generalize y_validG : @validG = x_validG at *
  generalize y_sC : @sC = x_sC at *
  generalize y_iC : @iC = x_iC at *
  generalize y_nS : @nS = x_nS at *
  generalize y_nI : @nI = x_nI at *
  generalize y_nB : @nB = x_nB at *
  generalize y_none7 : @none7 = x_none7 at *
  generalize y_lensG : @lensG = x_lensG at *
  generalize y_LC : @LC = x_LC at *
  generalize y_nRows : @nRows = x_nRows at *
  (repeat' first | ((first | with_reducible refine tr_cut (fun h => ?_) (fun h => ?_) | refine aw_condj (by cbv) (fun h => ?_) (fun h => ?_)) <;> (try simp (disch := omega) only [hj, std, cmpI, cmpB, satB, Bool.not_eq_true, Bool.not_eq_false, decide_eq_true_eq, decide_eq_false_iff_not, beq_iff_eq, bne_iff_ne, bne_eq_false_iff_eq, beq_eq_false_iff_ne, ne_eq, reduceCtorEq, not_true_eq_false, not_false_eq_true, pl0, if_true, cmpS_eq, cmpS_neq, Bool.not_eq_eq_eq_not, Bool.not_true, Bool.not_false, Bool.not_eq_true', ite0, e1, e4, e5, e6, add64, sub64] at h) <;> (try (exfalso; omega))) | (with_reducible refine tr_alt (fun h => ?_) ?_ <;> (try (exfalso; omega))) | (with_reducible refine tr_ob ?_ ?_) | (with_reducible refine tr_done ?_) | (refine aw_tr hj tok (bookLe x_intsOf x_bC x_fillB x_lrowsOf) (by cbv) ?_) | (refine aw_seq fun K hK => ?_) | (refine aw_tr1 hj tok (bookLe x_intsOf x_bC x_fillB x_lrowsOf) (by cbv) ?_) | (refine aw_skip ?_) | (refine aw_block ?_) | (refine aw_exit ?_) | (refine aw_ret ⟨.inr rfl, ret_okj hj (by cbv) ?_ ?_⟩) | (refine aw_ret ?_) | (with_reducible refine th_n ?_) | (with_reducible refine th_r ?_) | (with_reducible refine th_x ?_) | (with_reducible refine blk_n ?_) | (with_reducible refine blk_r ?_) | (with_reducible refine blk_x ?_) | (with_reducible refine blk_y rfl ?_) | (refine ⟨.inr rfl, ret_okj hj (by cbv) ?_ ?_⟩) | (refine ⟨.inl rfl, ret_okj hj (by cbv) ?_ ?_⟩) | ((with_reducible refine ⟨(_, _, _, _, _, _, _), by cbv, ?_, ?_⟩)) | ((with_reducible refine ⟨(_, _, _, _, _, _), by cbv, ?_, ?_⟩)) | ((with_reducible refine ⟨(_, _, _, _, _), by cbv, ?_, ?_⟩)) | ((with_reducible refine ⟨(_, _, _, _), by cbv, ?_, ?_⟩)) | ((with_reducible refine ⟨(_, _, _), by cbv, ?_, ?_⟩)) | ((with_reducible refine ⟨(_, _), by cbv, ?_, ?_⟩)) | ((with_reducible refine ⟨_, by cbv, ?_, ?_⟩)) | (with_reducible apply_assumption -symm -exfalso only [*]))
  all_goals ((try subst y_intsOf); (try subst y_bC); (try subst y_fillB); (try subst y_lrowsOf); (try subst y_rC); (try subst y_nR); (try subst y_validG); (try subst y_sC); (try subst y_iC); (try subst y_nS); (try subst y_nI); (try subst y_nB); (try subst y_none7); (try subst y_lensG); (try subst y_LC); (try subst y_nRows))
  all_goals (try have u := ‹bAt (fillB X _) _ = true›)
  all_goals (try have u := ‹bAt (fillB X _) _ = false›)
  all_goals (try (repeat' first | with_reducible exact obl0 | with_reducible refine obl1 ?_ ?_))
  all_goals (try first | with_reducible exact True.intro | ((first | refine ob_le hj ?_ | refine ob_lei hj ?_ | refine ob_inb hj ?_ | refine ob_pos hj ?_ | refine ob_ne0 hj ?_ | refine ob_eqb hj ?_); (first | rfl | first | omega | (simp only [hj, std]; split <;> omega) | (simp (disch := omega) only [hj, std, cmpI, cmpB, satB, add64, sub64, ite0, pl0, pl2, pl3, sb0, if_true, if_false, eq_self, ite0, e1, e4, hcell, rC_len, bC_len, LC_len] <;> omega) | (simp (disch := omega) [hj, std, cmpI, cmpB, satB, add64, sub64, ite0, pl0, pl2, pl3, sb0, if_true, if_false, eq_self, ite0, e1, e4, hcell, rC_len, bC_len, LC_len] <;> omega))) | ((refine ob_ok hj ?_; simp only [hj, std, ite0, e1, hcell]; first | exact ok_rC0 (by omega) | exact ok_bC (by omega) | exact .inr ⟨_, _, rfl⟩)) | ((refine ob_vals hj ?_; exact bC_vals _)) | ((simp (disch := omega) only [hj, std, add64, ite0, e1, hcell]; first | omega | exact ⟨by omega, by omega, trivial, _, (hrn _).symm, hset (by omega), hyes (by omega) u⟩ | exact ⟨by omega, by omega, trivial, Y, rfl, rfl, hno u⟩ | exact ⟨by omega, by omega, Y, rfl, rfl, hfin (by omega)⟩)))
end Go.Proofs.Ytdmdcmhgfgookaa.A

/- WellShortest. -/
set_option linter.unusedSimpArgs false
set_option linter.unusedVariables false
set_option maxRecDepth 100000
set_option maxHeartbeats 4000000
namespace Go.Proofs.Ytdmdcmhgfgookaa.A
open Go
def bookWS (x_rlsOf : List C → List Rl) (x_fewG : List ByteArray → List ByteArray → List Rl → Int) (x_validG : List ByteArray → List ByteArray → List Rl → Bool) (x_iC : List Int → List C) (x_bC : List Bool → List C) (x_nI : List Int → Nat) (x_nB : List Bool → Nat) (x_strsOf : List C → List ByteArray) (x_shortR : List ByteArray → List ByteArray → List Rl → List Int) (x_prod15 : List ByteArray → List Rl → List Bool) (x_lensG : List ByteArray → List Rl → List (List Bool)) (x_LC : List (List Bool) → List C) (x_nRows : List (List Bool) → Nat) : Book := fun f xs => match f, xs with
  | 10, [.v true [.sl _ a, .sl _ b, .sl _ c]] => some (ret1 (.st (vI (x_fewG (x_strsOf a) (x_strsOf b) (x_rlsOf c)))))
  | 11, [] => some (ret1 (.st (vB true)))
  | 14, [.v true [.sl _ a, .sl _ b, .sl _ c]] => some (ret1 (.st (vB (x_validG (x_strsOf a) (x_strsOf b) (x_rlsOf c)))))
  | 21, [.v true [.sl _ a, .sl _ _, .sl _ c]] => some (ret1 (.tree shB (.sl (x_nRows (x_lensG (x_strsOf a) (x_rlsOf c))) (x_LC (x_lensG (x_strsOf a) (x_rlsOf c)))) none))
  | 17, [.v true [.sl _ a, .sl _ b, .sl _ c]] => some (ret1 (.own intT (x_nI (x_shortR (x_strsOf a) (x_strsOf b) (x_rlsOf c))) (x_iC (x_shortR (x_strsOf a) (x_strsOf b) (x_rlsOf c)))))
  | 19, [.v true [.sl _ a, .sl _ b, .sl _ c]] => some (ret1 (.own boolT (x_nB (x_prod15 (x_strsOf a) (x_rlsOf c))) (x_bC (x_prod15 (x_strsOf a) (x_rlsOf c)))))
  | _, _ => none
theorem c_lengths {ns ts : List ByteArray} {rs : List Rl} (hS : Sml ns ts rs) (hv : validG ns ts rs = true) : pc 21 [.v true [(C.sl (nS ns) (sC ns)), (C.sl (nS ts) (sC ts)), (C.sl (nR rs) (rC rs))]] (ret1 (.tree shB (.sl (nRows (lensG (strsOf (sC ns)) (rlsOf (rC rs)))) (LC (lensG (strsOf (sC ns)) (rlsOf (rC rs))))) none)) := by
  rw [strsOf_sC, rlsOf_rC]
  exact ⟨enters Try.func21 (by kernel_rfl) (by kernel_rfl), pc_lengths ns ts rs hS hv⟩
theorem pc_WellShortest (ns ts : List ByteArray) (rs : List Rl) (h1 : nS ns < 4611686018427387904) (h2 : nS ts < 4611686018427387904) (h3 : nR rs < 2305843009213693952) (h4 : ∀ r ∈ rs, nI r.2 < 4611686018427387904) (h5 : ∀ s ∈ ns, s.size < 4611686018427387904) (h6 : ∀ s ∈ ts, s.size < 4611686018427387904) :
    PC Try.prog T 4 [.v true [(C.sl (nS ns) (sC ns)), (C.sl (nS ts) (sC ts)), (C.sl (nR rs) (rC rs))]] (ret1 (.st (vB true))) [] := by
  refine pc_of tok Try.func4 rfl (by rfl) ?_
  obtain ⟨j, hj⟩ : ∃ j : J, j = std Try.prog T := ⟨_, rfl⟩
  have hm : Try.prog.follows .mixedOrders = true := by kernel_rfl
  have x1 := strsOf_sC ns
  have x2 := strsOf_sC ts
  have x3 := rlsOf_rC rs
  generalize y_rlsOf : @rlsOf = x_rlsOf at *
  generalize y_fewG : @fewG = x_fewG at *
  generalize y_validG : @validG = x_validG at *
  generalize y_iC : @iC = x_iC at *
  generalize y_bC : @bC = x_bC at *
  generalize y_nI : @nI = x_nI at *
  generalize y_nB : @nB = x_nB at *
  generalize y_strsOf : @strsOf = x_strsOf at *
  generalize y_shortR : @shortR = x_shortR at *
  generalize y_prod15 : @prod15 = x_prod15 at *
  generalize y_lensG : @lensG = x_lensG at *
  generalize y_LC : @LC = x_LC at *
  generalize y_nRows : @nRows = x_nRows at *
  generalize y_rC : @rC = x_rC at *
  generalize y_nR : @nR = x_nR at *
  generalize y_sC : @sC = x_sC at *
  generalize y_nS : @nS = x_nS at *
  (repeat' first | ((first | with_reducible refine tr_cut (fun h => ?_) (fun h => ?_) | refine aw_condj (by cbv) (fun h => ?_) (fun h => ?_)) <;> (try simp (disch := omega) only [hj, std, cmpI, cmpB, satB, Bool.not_eq_true, Bool.not_eq_false, decide_eq_true_eq, decide_eq_false_iff_not, beq_iff_eq, bne_iff_ne, bne_eq_false_iff_eq, beq_eq_false_iff_ne, ne_eq, reduceCtorEq, not_true_eq_false, not_false_eq_true, pl0, if_true, cmpS_eq, cmpS_neq, Bool.not_eq_eq_eq_not, Bool.not_true, Bool.not_false, Bool.not_eq_true', x1, x2, x3, add64, sub64] at h) <;> (try (exfalso; omega))) | (with_reducible refine tr_alt (fun h => ?_) ?_ <;> (try (exfalso; omega))) | (with_reducible refine tr_ob ?_ ?_) | (with_reducible refine tr_done ?_) | (refine aw_tr hj tok (bookWS x_rlsOf x_fewG x_validG x_iC x_bC x_nI x_nB x_strsOf x_shortR x_prod15 x_lensG x_LC x_nRows) (by cbv) ?_) | (refine aw_seq fun K hK => ?_) | (refine aw_tr1 hj tok (bookWS x_rlsOf x_fewG x_validG x_iC x_bC x_nI x_nB x_strsOf x_shortR x_prod15 x_lensG x_LC x_nRows) (by cbv) ?_) | (refine aw_skip ?_) | (refine aw_block ?_) | (refine aw_exit ?_) | (refine aw_ret ⟨.inr rfl, ret_okj hj (by cbv) ?_ ?_⟩) | (refine aw_ret ?_) | (with_reducible refine th_n ?_) | (with_reducible refine th_r ?_) | (with_reducible refine th_x ?_) | (with_reducible refine blk_n ?_) | (with_reducible refine blk_r ?_) | (with_reducible refine blk_x ?_) | (with_reducible refine blk_y rfl ?_) | (refine ⟨.inr rfl, ret_okj hj (by cbv) ?_ ?_⟩) | (refine ⟨.inl rfl, ret_okj hj (by cbv) ?_ ?_⟩) | ((with_reducible refine ⟨(_, _, _, _, _, _, _), by cbv, ?_, ?_⟩)) | ((with_reducible refine ⟨(_, _, _, _, _, _), by cbv, ?_, ?_⟩)) | ((with_reducible refine ⟨(_, _, _, _, _), by cbv, ?_, ?_⟩)) | ((with_reducible refine ⟨(_, _, _, _), by cbv, ?_, ?_⟩)) | ((with_reducible refine ⟨(_, _, _), by cbv, ?_, ?_⟩)) | ((with_reducible refine ⟨(_, _), by cbv, ?_, ?_⟩)) | ((with_reducible refine ⟨_, by cbv, ?_, ?_⟩)) | (with_reducible apply_assumption -symm -exfalso only [*]))
  all_goals ((try subst y_rlsOf); (try subst y_fewG); (try subst y_validG); (try subst y_iC); (try subst y_bC); (try subst y_nI); (try subst y_nB); (try subst y_strsOf); (try subst y_shortR); (try subst y_prod15); (try subst y_lensG); (try subst y_LC); (try subst y_nRows); (try subst y_rC); (try subst y_nR); (try subst y_sC); (try subst y_nS))
  all_goals (try have q := ‹¬ fewG _ _ _ = 0›)
  all_goals (try have hS := sml_few q)
  all_goals (try have v := ‹validG _ _ _ = true›)
  all_goals (try (repeat' first | with_reducible exact obl0 | with_reducible refine obl1 ?_ ?_))
  all_goals (try first | with_reducible exact True.intro | (refine ob_pc hj ?_; (try rw [hj]); first | exact c_Few h1 h2 h3 h4 h5 h6 | exact c_awake15 | exact c_Valid14 hS | exact c_lengths hS v | exact c_Shortest hS | exact c_Prod15 hS v) | (refine ob_pcn hj ?_; (try rw [hj]); first | exact c_Few h1 h2 h3 h4 h5 h6 | exact c_awake15 | exact c_Valid14 hS | exact c_lengths hS v | exact c_Shortest hS | exact c_Prod15 hS v) | ((first | refine ob_le hj ?_ | refine ob_lei hj ?_ | refine ob_inb hj ?_ | refine ob_pos hj ?_ | refine ob_ne0 hj ?_ | refine ob_eqb hj ?_); (first | rfl | first | omega | (simp only [hj, std]; split <;> omega) | (simp (disch := omega) only [hj, std, cmpI, cmpB, satB, add64, sub64, ite0, pl0, pl2, pl3, sb0, if_true, if_false, eq_self] <;> omega) | (simp (disch := omega) [hj, std, cmpI, cmpB, satB, add64, sub64, ite0, pl0, pl2, pl3, sb0, if_true, if_false, eq_self] <;> omega))) | (exact rfl) | ((refine ob_vals hj ?_; exact bC_vals _)) | ((refine ob_vals hj ?_; exact iC_vals _)) | ((have g := ‹¬ (nI (shortR _ _ _) : Int) = nS ns›; rw [shortR_len v] at g; exact absurd rfl g)))
  simp only [x1, x2, x3]
  have hsl : nI (shortR ns ts rs) = nS ns := shortR_len v
  have hn1 := hS.n
  have key : ∀ i n : Nat, i < nS ns → n < 7 → (bAt (rowAt (lensG ns rs) i) n = true → 0 ≤ iAt (shortR ns ts rs) i ∧ iAt (shortR ns ts rs) i ≤ n) ∧ (iAt (shortR ns ts rs) i = (n : Int) → bAt (rowAt (lensG ns rs) i) n = true) := fun i n hi hn => lens_ok v hi hn
  have kp : ∀ i : Nat, i < nS ns → bAt (prod15 ns rs) i = decide (iAt (shortR ns ts rs) i ≥ 0) := fun i hi => by
    rw [← prod_eq v]; exact posL_at (by rw [← nI_eq, hsl]; exact hi)
  have kl : nB (prod15 ns rs) = nS ns := prod15_len ns rs
  have hL : Row7 (nS ns) (lensG ns rs) := by unfold lensG; exact (row7_rep _).it _
  generalize shortR ns ts rs = s at *
  generalize prod15 ns rs = P at *
  generalize lensG ns rs = L at *
  have ns' := nI_eq s; have nP' := nB_eq P; have nL' := nRows_eq L
  have nL2 : nRows L = nS ns := by rw [nL']; exact hL.1
  refine aw_lpj hj [(3, .tree shB), (4, .own intT), (5, .own boolT), (6, .keep)] [] (fun (i : Int) => stOf 86 [(3, .one (.tv 3 0 [])), (4, .one (.view 4 0)), (5, .one (.view 5 0)), (6, .one (.c (vI i)))] [(3, .loose [.tree shB ((.sl (nRows L) (LC L))) none]), (4, .loose [.own intT (nI s) (iC s)]), (5, .loose [.own boolT (nB P) (bC P)])]) (fun (i : Int) => nI s - i.toNat) (fun (i : Int) => 0 ≤ i ∧ i ≤ nI s) (0) (by generalize @rlsOf = x_rlsOf; generalize @fewG = x_fewG; generalize @validG = x_validG; generalize @iC = x_iC; generalize @bC = x_bC; generalize @nI = x_nI; generalize @nB = x_nB; generalize @strsOf = x_strsOf; generalize @shortR = x_shortR; generalize @prod15 = x_prod15; generalize @lensG = x_lensG; generalize @LC = x_LC; generalize @nRows = x_nRows; generalize @rC = x_rC; generalize @nR = x_nR; generalize @sC = x_sC; generalize @nS = x_nS; cbv) ?_ (fun i hI => ?_)
  · exact ⟨by omega, by omega⟩
  obtain ⟨i1, i2⟩ := hI
  have e1 : gi (cellAt (iC s) i.toNat) = iAt s i.toNat := gi_iC _ _
  have e2 : gb (cellAt (bC P) i.toNat) = bAt P i.toNat := gb_bC _ _
  have kpi : i < nI s → bAt P i.toNat = decide (iAt s i.toNat ≥ 0) := fun h => kp _ (by omega)
  generalize y_rlsOf : @rlsOf = x_rlsOf at *
  generalize y_fewG : @fewG = x_fewG at *
  generalize y_validG : @validG = x_validG at *
  generalize y_iC : @iC = x_iC at *
  generalize y_bC : @bC = x_bC at *
  generalize y_nI : @nI = x_nI at *
  generalize y_nB : @nB = x_nB at *
  generalize y_strsOf : @strsOf = x_strsOf at *
  generalize y_shortR : @shortR = x_shortR at *
  generalize y_prod15 : @prod15 = x_prod15 at *
  generalize y_lensG : @lensG = x_lensG at *
  generalize y_LC : @LC = x_LC at *
  generalize y_nRows : @nRows = x_nRows at *
  generalize y_rC : @rC = x_rC at *
  generalize y_nR : @nR = x_nR at *
  generalize y_sC : @sC = x_sC at *
  generalize y_nS : @nS = x_nS at *
  (repeat' first | ((first | with_reducible refine tr_cut (fun h => ?_) (fun h => ?_) | refine aw_condj (by cbv) (fun h => ?_) (fun h => ?_)) <;> (try simp (disch := omega) only [hj, std, cmpI, cmpB, satB, Bool.not_eq_true, Bool.not_eq_false, decide_eq_true_eq, decide_eq_false_iff_not, beq_iff_eq, bne_iff_ne, bne_eq_false_iff_eq, beq_eq_false_iff_ne, ne_eq, reduceCtorEq, not_true_eq_false, not_false_eq_true, pl0, if_true, cmpS_eq, cmpS_neq, Bool.not_eq_eq_eq_not, Bool.not_true, Bool.not_false, Bool.not_eq_true', e1, e2, add64, sub64] at h) <;> (try (exfalso; omega))) | (with_reducible refine tr_alt (fun h => ?_) ?_ <;> (try (exfalso; omega))) | (with_reducible refine tr_ob ?_ ?_) | (with_reducible refine tr_done ?_) | (refine aw_dr1 (id := 11) hj tok hm (bookWS x_rlsOf x_fewG x_validG x_iC x_bC x_nI x_nB x_strsOf x_shortR x_prod15 x_lensG x_LC x_nRows) true [(0, false), (1, false), (2, false), (3, false), (4, false), (5, false), (6, true), (7, true), (8, true), (9, true)] (by kernel_rfl) (by cbv) ?_) | (refine aw_dr (id := 11) hj tok hm (bookWS x_rlsOf x_fewG x_validG x_iC x_bC x_nI x_nB x_strsOf x_shortR x_prod15 x_lensG x_LC x_nRows) true [(0, false), (1, false), (2, false), (3, false), (4, false), (5, false), (6, true), (7, true), (8, true), (9, true)] (by kernel_rfl) (by cbv) ?_) | (refine aw_tr hj tok (bookWS x_rlsOf x_fewG x_validG x_iC x_bC x_nI x_nB x_strsOf x_shortR x_prod15 x_lensG x_LC x_nRows) (by cbv) ?_) | (refine aw_seq fun K hK => ?_) | (refine aw_tr1 hj tok (bookWS x_rlsOf x_fewG x_validG x_iC x_bC x_nI x_nB x_strsOf x_shortR x_prod15 x_lensG x_LC x_nRows) (by cbv) ?_) | (refine aw_skip ?_) | (refine aw_block ?_) | (refine aw_exit ?_) | (refine aw_ret ⟨.inr rfl, ret_okj hj (by cbv) ?_ ?_⟩) | (refine aw_ret ?_) | (with_reducible refine th_n ?_) | (with_reducible refine th_r ?_) | (with_reducible refine th_x ?_) | (with_reducible refine blk_n ?_) | (with_reducible refine blk_r ?_) | (with_reducible refine blk_x ?_) | (with_reducible refine blk_y rfl ?_) | (refine ⟨.inr rfl, ret_okj hj (by cbv) ?_ ?_⟩) | (refine ⟨.inl rfl, ret_okj hj (by cbv) ?_ ?_⟩) | ((with_reducible refine ⟨(_, _, _, _, _, _, _), by cbv, ?_, ?_⟩)) | ((with_reducible refine ⟨(_, _, _, _, _, _), by cbv, ?_, ?_⟩)) | ((with_reducible refine ⟨(_, _, _, _, _), by cbv, ?_, ?_⟩)) | ((with_reducible refine ⟨(_, _, _, _), by cbv, ?_, ?_⟩)) | ((with_reducible refine ⟨(_, _, _), by cbv, ?_, ?_⟩)) | ((with_reducible refine ⟨(_, _), by cbv, ?_, ?_⟩)) | ((with_reducible refine ⟨_, by cbv, ?_, ?_⟩)) | (with_reducible apply_assumption -symm -exfalso only [*]))
  all_goals ((try subst y_rlsOf); (try subst y_fewG); (try subst y_validG); (try subst y_iC); (try subst y_bC); (try subst y_nI); (try subst y_nB); (try subst y_strsOf); (try subst y_shortR); (try subst y_prod15); (try subst y_lensG); (try subst y_LC); (try subst y_nRows); (try subst y_rC); (try subst y_nR); (try subst y_sC); (try subst y_nS))
  all_goals (try (repeat' first | with_reducible exact obl0 | with_reducible refine obl1 ?_ ?_))
  all_goals (try first | with_reducible exact True.intro | (refine ob_pc hj ?_; (try rw [hj]); first | exact c_awake15) | (refine ob_pcn hj ?_; (try rw [hj]); first | exact c_awake15) | ((first | refine ob_le hj ?_ | refine ob_lei hj ?_ | refine ob_inb hj ?_ | refine ob_pos hj ?_ | refine ob_ne0 hj ?_ | refine ob_eqb hj ?_); (first | rfl | first | omega | (simp only [hj, std]; split <;> omega) | (simp (disch := omega) only [hj, std, cmpI, cmpB, satB, add64, sub64, ite0, pl0, pl2, pl3, sb0, if_true, if_false, eq_self, iC_len, bC_len] <;> omega) | (simp (disch := omega) [hj, std, cmpI, cmpB, satB, add64, sub64, ite0, pl0, pl2, pl3, sb0, if_true, if_false, eq_self, iC_len, bC_len] <;> omega))) | (exact rfl) | ((refine ob_ok hj ?_; simp only [hj, std, ite0]; first | exact ok_iC (by omega) | exact ok_bC (by omega))) | ((exact absurd (kpi (by omega)).symm (by assumption))))
  have hil : i < nI s := by assumption
  refine aw_lpj hj [(3, .tree shB), (4, .own intT), (5, .own boolT), (6, .keep), (7, .keep)] [] (fun (n : Int) => stOf 86 [(3, .one (.tv 3 0 [])), (4, .one (.view 4 0)), (5, .one (.view 5 0)), (6, .one (.c (vI i))), (7, .one (.c (vI n)))] [(3, .loose [.tree shB ((.sl (nRows L) (LC L))) none]), (4, .loose [.own intT (nI s) (iC s)]), (5, .loose [.own boolT (nB P) (bC P)])]) (fun (n : Int) => 7 - n.toNat) (fun (n : Int) => 0 ≤ n ∧ n ≤ 7) (0) (by generalize @rlsOf = x_rlsOf; generalize @fewG = x_fewG; generalize @validG = x_validG; generalize @iC = x_iC; generalize @bC = x_bC; generalize @nI = x_nI; generalize @nB = x_nB; generalize @strsOf = x_strsOf; generalize @shortR = x_shortR; generalize @prod15 = x_prod15; generalize @lensG = x_lensG; generalize @LC = x_LC; generalize @nRows = x_nRows; generalize @rC = x_rC; generalize @nR = x_nR; generalize @sC = x_sC; generalize @nS = x_nS; cbv) ?_ (fun n hI => ?_)
  · exact ⟨by omega, by omega⟩
  obtain ⟨n1, n2⟩ := hI
  have hcell : cellAt (LC L) i.toNat = .sl (nB (rowAt L i.toNat)) (bC (rowAt L i.toNat)) := LC_cell (by rw [hL.1]; omega)
  have row7 := hL.at (k := i.toNat) (by omega)
  have nrow := nB_eq (rowAt L i.toNat)
  have kin : n < 7 → (bAt (rowAt L i.toNat) n.toNat = true → 0 ≤ iAt s i.toNat ∧ iAt s i.toNat ≤ n) ∧ (n = iAt s i.toNat → bAt (rowAt L i.toNat) n.toNat = true) := fun h => by
    have h8 := key i.toNat n.toNat (by omega) (by omega)
    exact ⟨fun hh => by have := h8.1 hh; omega, fun hh => h8.2 (by omega)⟩
  have e3 : gb (cellAt (bC (rowAt L i.toNat)) n.toNat) = bAt (rowAt L i.toNat) n.toNat := gb_bC _ _
  generalize y_rlsOf : @rlsOf = x_rlsOf at *
  generalize y_fewG : @fewG = x_fewG at *
  generalize y_validG : @validG = x_validG at *
  generalize y_iC : @iC = x_iC at *
  generalize y_bC : @bC = x_bC at *
  generalize y_nI : @nI = x_nI at *
  generalize y_nB : @nB = x_nB at *
  generalize y_strsOf : @strsOf = x_strsOf at *
  generalize y_shortR : @shortR = x_shortR at *
  generalize y_prod15 : @prod15 = x_prod15 at *
  generalize y_lensG : @lensG = x_lensG at *
  generalize y_LC : @LC = x_LC at *
  generalize y_nRows : @nRows = x_nRows at *
  generalize y_rC : @rC = x_rC at *
  generalize y_nR : @nR = x_nR at *
  generalize y_sC : @sC = x_sC at *
  generalize y_nS : @nS = x_nS at *
  (repeat' first | ((first | with_reducible refine tr_cut (fun h => ?_) (fun h => ?_) | refine aw_condj (by cbv) (fun h => ?_) (fun h => ?_)) <;> (try simp (disch := omega) only [hj, std, cmpI, cmpB, satB, Bool.not_eq_true, Bool.not_eq_false, decide_eq_true_eq, decide_eq_false_iff_not, beq_iff_eq, bne_iff_ne, bne_eq_false_iff_eq, beq_eq_false_iff_ne, ne_eq, reduceCtorEq, not_true_eq_false, not_false_eq_true, pl0, if_true, cmpS_eq, cmpS_neq, Bool.not_eq_eq_eq_not, Bool.not_true, Bool.not_false, Bool.not_eq_true', e1, e2, e3, hcell, add64, sub64] at h) <;> (try (exfalso; omega))) | (with_reducible refine tr_alt (fun h => ?_) ?_ <;> (try (exfalso; omega))) | (with_reducible refine tr_ob ?_ ?_) | (with_reducible refine tr_done ?_) | (refine aw_tr hj tok (bookWS x_rlsOf x_fewG x_validG x_iC x_bC x_nI x_nB x_strsOf x_shortR x_prod15 x_lensG x_LC x_nRows) (by cbv) ?_) | (refine aw_seq fun K hK => ?_) | (refine aw_tr1 hj tok (bookWS x_rlsOf x_fewG x_validG x_iC x_bC x_nI x_nB x_strsOf x_shortR x_prod15 x_lensG x_LC x_nRows) (by cbv) ?_) | (refine aw_skip ?_) | (refine aw_block ?_) | (refine aw_exit ?_) | (refine aw_ret ⟨.inr rfl, ret_okj hj (by cbv) ?_ ?_⟩) | (refine aw_ret ?_) | (with_reducible refine th_n ?_) | (with_reducible refine th_r ?_) | (with_reducible refine th_x ?_) | (with_reducible refine blk_n ?_) | (with_reducible refine blk_r ?_) | (with_reducible refine blk_x ?_) | (with_reducible refine blk_y rfl ?_) | (refine ⟨.inr rfl, ret_okj hj (by cbv) ?_ ?_⟩) | (refine ⟨.inl rfl, ret_okj hj (by cbv) ?_ ?_⟩) | ((with_reducible refine ⟨(_, _, _, _, _, _, _), by cbv, ?_, ?_⟩)) | ((with_reducible refine ⟨(_, _, _, _, _, _), by cbv, ?_, ?_⟩)) | ((with_reducible refine ⟨(_, _, _, _, _), by cbv, ?_, ?_⟩)) | ((with_reducible refine ⟨(_, _, _, _), by cbv, ?_, ?_⟩)) | ((with_reducible refine ⟨(_, _, _), by cbv, ?_, ?_⟩)) | ((with_reducible refine ⟨(_, _), by cbv, ?_, ?_⟩)) | ((with_reducible refine ⟨_, by cbv, ?_, ?_⟩)) | (with_reducible apply_assumption -symm -exfalso only [*]))
  all_goals ((try subst y_rlsOf); (try subst y_fewG); (try subst y_validG); (try subst y_iC); (try subst y_bC); (try subst y_nI); (try subst y_nB); (try subst y_strsOf); (try subst y_shortR); (try subst y_prod15); (try subst y_lensG); (try subst y_LC); (try subst y_nRows); (try subst y_rC); (try subst y_nR); (try subst y_sC); (try subst y_nS))
  all_goals (try (repeat' first | with_reducible exact obl0 | with_reducible refine obl1 ?_ ?_))
  all_goals (try first | with_reducible exact True.intro | ((first | refine ob_le hj ?_ | refine ob_lei hj ?_ | refine ob_inb hj ?_ | refine ob_pos hj ?_ | refine ob_ne0 hj ?_ | refine ob_eqb hj ?_); (first | rfl | first | omega | (simp only [hj, std]; split <;> omega) | (simp (disch := omega) only [hj, std, cmpI, cmpB, satB, add64, sub64, ite0, pl0, pl2, pl3, sb0, if_true, if_false, eq_self, iC_len, bC_len, LC_len, hcell] <;> omega) | (simp (disch := omega) [hj, std, cmpI, cmpB, satB, add64, sub64, ite0, pl0, pl2, pl3, sb0, if_true, if_false, eq_self, iC_len, bC_len, LC_len, hcell] <;> omega))) | ((exfalso; have u := ‹bAt (rowAt L _) _ = true›; have k := (kin (by omega)).1 u; omega)) | ((exfalso; have u := ‹bAt (rowAt L _) _ = false›; have k := (kin (by omega)).2 (by omega); rw [u] at k; cases k)) | ((refine ob_ok hj ?_; simp only [hj, std, ite0, hcell]; first | exact ok_iC (by omega) | exact ok_bC (by omega) | exact .inr ⟨_, _, rfl⟩)) | ((simp (disch := omega) only [hj, std, add64]; first | omega | exact ⟨by omega, by omega⟩)))
end Go.Proofs.Ytdmdcmhgfgookaa.A

/- WellShortest: the walk, as the row's step asks for it. -/
set_option linter.unusedSimpArgs false
set_option linter.unusedVariables false
set_option maxRecDepth 100000
set_option maxHeartbeats 4000000
namespace Go.Proofs.Ytdmdcmhgfgookaa
open Go Go.RowKit
theorem wellShortest_walk (w : World) (a0 : Array Value) (x0 : List ByteArray × List ByteArray × List (Int × List Int)) (R0 : A.RGram w (Value.agg a0).cells.toList x0) :
    Calls Try.prog 4 #[.agg a0] w fun e w' => e = .returned (.bool true) ∧ Below w.heap.size w w' := by
  have hb := A.gram_b R0
  exact A.walk_of_pc (vs := [.agg a0]) (A.pc_WellShortest x0.1 x0.2.1 x0.2.2 hb.n hb.t hb.r hb.i hb.s hb.u) (by simp [A.Arg.asRoot]) (fun b => b < w.heap.size) (fun _ h => h) rfl (fun i h h2 => by
    have h3 : i < 1 := h
    obtain rfl : i = 0 := by omega
    exact A.gram_arg R0)
end Go.Proofs.Ytdmdcmhgfgookaa
