/- What GramValid needs beyond, part 1. -/
import Derived.Test.YtgimfjmigoibgaaMz5
import Derived.ProofKit
import Derived.OpenShut
import Derived.SizedLaws
import Derived.Deep.Slices
import Derived.Deep.Strs
/- From the model's reading of an argument to plain predicates on worlds: a reading relation a type, put together from parts. No program in sight. -/
set_option linter.unusedSimpArgs false
set_option linter.unusedVariables false
set_option maxRecDepth 100000
set_option maxHeartbeats 4000000
namespace Go.Proofs.Ytgimfjmigoibgaa
open Go.RowKit Go.ChangeShapes Go.WideShapes Go.ChangeAt
def RInt : Rd Int := fun _ cs n => cs = [.int .i64 n] ∧ -9223372036854775808 ≤ n ∧ n ≤ 9223372036854775807
def RPair {α β : Type} (s1 s2 : Nat) (A : Rd α) (B : Rd β) : Rd (α × β) := fun w cs x => ∃ c1 c2, cs = c1 ++ c2 ∧ c1.length = s1 ∧ c2.length = s2 ∧ A w c1 x.1 ∧ B w c2 x.2
def SlAt {α : Type} (sz : Nat) (R : Rd α) (w : World) (a : Option Addr) (xs : List α) : Prop :=
  0 < xs.length → ∃ b off, a = some ⟨b, off, none⟩ ∧ b < w.heap.size ∧ ∀ i (h : i < xs.length), ∃ cs, cs.length = sz ∧ (∀ j, j < sz → w.cell? ⟨b, off + (i * sz + j), none⟩ = cs[j]?) ∧ R w cs xs[i]
def RSl {α : Type} (sz by_ : Nat) (R : Rd α) : Rd (List α) := fun w cs xs => ∃ a cap, cs = [.slice a xs.length cap] ∧ SlAt sz R w a xs ∧ xs.length ≤ cap ∧ cap * by_ ≤ 140737488351232 ∧ cap ≤ maxLen ∧ (a = none → cap = 0)
/-! ### from the model's reading -/
section
variable {H : Type} {enc : TypeId × Value → H} {P : Program} {w : World}
theorem lk_int {t : TypeId} (ht : P.underlying t = some (.int .i64)) : Lk enc P w t RInt := by
  intro fuel cs x h _
  obtain ⟨n, rfl, _, hw⟩ := DataW.trod_int ht h
  refine ⟨n, rfl, ?_⟩
  simpa [Lit.wf, IntKind.min, IntKind.max, IntKind.signed, IntKind.bits] using hw
theorem mem_weightsAll {t : TypeId} {l : List (DataW H)} {d : DataW H} (h : d ∈ l) {n : Nat} (hn : n ∈ d.weights P t) : n ∈ DataW.weightsAll P t l := by
  induction l with
  | nil => cases h
  | cons a l ih =>
    rw [DataW.weightsAll]
    rcases List.mem_cons.1 h with rfl | h
    · exact List.mem_append.2 (.inl hn)
    · exact List.mem_append.2 (.inr (ih h))
theorem lk_sl {α : Type} {t e : TypeId} {sz by_ : Nat} {R : Rd α} (ht : P.underlying t = some (.slice e)) (hsz : P.cellsOf e = sz) (hpos : 0 < sz) (hby : P.bytesOf e = by_) (hR : Lk enc P w e R) : Lk enc P w t (RSl sz by_ R) := by
  intro fuel cs x h hz
  subst hsz; subst hby
  rcases Deep.open_slice ht h with ⟨rfl, rfl⟩ | ⟨a, len, cap, m, n, D, Pl, rfl, _, hl, hm, rfl, rfl, hel⟩
  · exact ⟨[], none, 0, rfl, fun h0 => absurd h0 (by simp), Nat.le_refl _, by simp, by simp, fun _ => rfl⟩
  · simp only [if_true] at hel hz
    have hz1 := List.all_eq_true.1 hz
    have hbig : m * P.bytesOf e ≤ 140737488351232 := by
      have h1 := hz1 ((len + (m - len)) * P.bytesOf e) (by simp [DataW.weights, ht])
      have h2 : (len + (m - len)) * P.bytesOf e ≤ reachBytes := of_decide_eq_true h1
      rw [show len + (m - len) = m by omega] at h2
      simp only [reachBytes] at h2
      exact h2
    have helem : ∀ i, i < len → ((D i).weights P e).all (· ≤ reachBytes) = true := by
      intro i hi
      refine List.all_eq_true.2 fun k hk => hz1 k ?_
      simp only [DataW.weights, ht, List.mem_cons, List.mem_append]
      exact .inr (.inl (mem_weightsAll (List.mem_map.2 ⟨i, List.mem_range.2 hi, rfl⟩) hk))
    have hx : ∃ xs : List α, xs.length = len ∧ ∀ i (hi : i < xs.length), ∃ cs', w.cells? 0 (a.add (i * P.cellsOf e)) (P.cellsOf e) = some cs' ∧ R w cs' xs[i] := by
      have key : ∀ k, k ≤ len → ∃ xs : List α, xs.length = k ∧ ∀ i (hi : i < xs.length), ∃ cs', w.cells? 0 (a.add (i * P.cellsOf e)) (P.cellsOf e) = some cs' ∧ R w cs' xs[i] := by
        intro k
        induction k with
        | zero => intro _; exact ⟨[], rfl, fun i hi => absurd hi (by simp)⟩
        | succ k ih =>
          intro hk
          obtain ⟨xs, hxl, hxs⟩ := ih (by omega)
          obtain ⟨cs', h1, h2⟩ := hel k (by omega)
          obtain ⟨v, hv⟩ := hR _ _ _ h2 (helem k (by omega))
          refine ⟨xs ++ [v], by simp [hxl], fun i hi => ?_⟩
          by_cases hik : i < xs.length
          · rw [List.getElem_append_left hik]; exact hxs i hik
          · have : i = k := by simp at hi; omega
            subst this
            rw [List.getElem_append_right (by omega)]
            simp only [hxl, Nat.sub_self, List.getElem_cons_zero]
            exact ⟨cs', h1, hv⟩
      exact key len (Nat.le_refl _)
    obtain ⟨xs, hxl, hxs⟩ := hx
    subst hxl
    refine ⟨xs, some a, m, rfl, fun h0 => ?_, hl, hbig, hm, fun h => by cases h⟩
    obtain ⟨cs0, h00, _⟩ := hxs 0 h0
    have hb := World.cells?_block h00 hpos
    obtain ⟨b, off, spot⟩ := a
    have hspot : spot = none := by
      obtain ⟨_, hcl, hcc⟩ := World.cells?_some h00
      have h1 := hcc 0 (by omega)
      rw [List.getElem?_eq_getElem (by omega)] at h1
      have := World.cell?_spot h1
      simpa [Addr.add] using this
    subst hspot
    refine ⟨b, off, rfl, by simpa [Addr.add_lit] using hb, fun i hi => ?_⟩
    obtain ⟨cs', h1, h2⟩ := hxs i hi
    obtain ⟨_, hcl, hcc⟩ := World.cells?_some h1
    refine ⟨cs', hcl, fun j hj => ?_, h2⟩
    have := hcc j hj
    rw [Addr.add_lit, Addr.add_lit] at this
    rw [← this, Nat.add_assoc]
end
end Go.Proofs.Ytgimfjmigoibgaa
/- The ghost machine, part 34: from what an argument reads as to the machine's cells. -/
set_option linter.unusedSimpArgs false
set_option linter.unusedVariables false
set_option maxRecDepth 100000
set_option maxHeartbeats 4000000
namespace Go.Proofs.Ytgimfjmigoibgaa.A
open Go
def RdC {α : Type} (R : Rd α) (f : α → List C) : Prop :=
  ∀ (w : World) (cs : List Value) (x : α), R w cs x → cs.length = (f x).length ∧ ∀ k (h : k < cs.length) (h2 : k < (f x).length), CRep w (fun b => b < w.heap.size) cs[k] (f x)[k]
theorem rdc_one {w : World} {S : Nat → Prop} {v : Value} {c : C} (h : CRep w S v c) : [v].length = [c].length ∧ ∀ k (h : k < [v].length) (h2 : k < [c].length), CRep w S [v][k] [c][k] :=
  ⟨rfl, fun k hk hk2 => by
    have hk' : k < 1 := hk
    obtain rfl : k = 0 := by omega
    exact h⟩
theorem rdc_int : RdC RInt fun n => [vI n] := by rintro w cs n ⟨rfl, _⟩; exact rdc_one (.val rfl)
theorem rdc_str : RdC RStr fun s => [vS s] := by rintro w cs s ⟨rfl, _⟩; exact rdc_one (.val rfl)
theorem rdc_pair {α β : Type} {s1 s2 : Nat} {A : Rd α} {B : Rd β} {f : α → List C} {g : β → List C} (ha : RdC A f) (hb : RdC B g) : RdC (RPair s1 s2 A B) fun x => f x.1 ++ g x.2 := by
  rintro w cs x ⟨c1, c2, rfl, h1, h2, h3, h4⟩
  obtain ⟨l1, k1⟩ := ha w c1 x.1 h3
  obtain ⟨l2, k2⟩ := hb w c2 x.2 h4
  refine ⟨by rw [List.length_append, List.length_append, l1, l2], fun k hk hk2 => ?_⟩
  by_cases hlt : k < c1.length
  · rw [List.getElem_append_left hlt, List.getElem_append_left (by omega)]
    exact k1 k hlt (by omega)
  · have e1 : k < (c1 ++ c2).length := hk
    have e2 : k < (f x.1 ++ g x.2).length := hk2
    simp only [List.length_append] at e1 e2
    rw [List.getElem_append_right (by omega), List.getElem_append_right (by omega)]
    simp only [l1]
    exact k2 _ (by omega) (by omega)
theorem flat_cells {α : Type} {R : Rd α} {f : α → List C} {sz : Nat} (hR : RdC R f) (hsz : ∀ x, (f x).length = sz) {w : World} {b : Nat} :
    ∀ (xs : List α) (off : Nat), (∀ i (h : i < xs.length), ∃ cs : List Value, cs.length = sz ∧ (∀ j, j < sz → w.cell? ⟨b, off + (i * sz + j), none⟩ = cs[j]?) ∧ R w cs xs[i]) →
      ∀ j (h : j < (xs.flatMap f).length), ∃ v, w.cell? ⟨b, off + j, none⟩ = some v ∧ CRep w (fun b => b < w.heap.size) v (xs.flatMap f)[j] := by
  intro xs
  induction xs with
  | nil => intro off _ j h; exact absurd h (by simp)
  | cons x xs ih =>
    intro off hc j hj
    obtain ⟨cs, c1, c2, c3⟩ := hc 0 (by simp)
    obtain ⟨l1, k1⟩ := hR w cs x c3
    have hfl : (x :: xs).flatMap f = f x ++ xs.flatMap f := List.flatMap_cons ..
    have hj2 : j < (f x ++ xs.flatMap f).length := by rw [← hfl]; exact hj
    have hx := hsz x
    by_cases hlt : j < sz
    · have hjc : j < cs.length := by omega
      have h3 := c2 j hlt
      rw [Nat.zero_mul, Nat.zero_add, List.getElem?_eq_getElem hjc] at h3
      refine ⟨cs[j], h3, ?_⟩
      have e1 : ((x :: xs).flatMap f)[j] = (f x)[j]'(by omega) := by
        simp only [hfl]; rw [List.getElem_append_left (by omega)]
      rw [e1]
      exact k1 j hjc (by omega)
    · simp only [List.length_append] at hj2
      obtain ⟨v, v1, v2⟩ := ih (off + sz) (fun i hi => by
        obtain ⟨cs, d1, d2, d3⟩ := hc (i + 1) (by simp; omega)
        refine ⟨cs, d1, fun j hj => ?_, by simpa using d3⟩
        have := d2 j hj
        rw [Nat.add_mul, Nat.one_mul] at this
        rw [← this]; congr 2; omega) (j - sz) (by omega)
      refine ⟨v, ?_, ?_⟩
      · rw [← v1]; congr 2; omega
      · have e1 : ((x :: xs).flatMap f)[j] = (xs.flatMap f)[j - sz]'(by omega) := by
          simp only [hfl]; rw [List.getElem_append_right (by omega)]; simp only [hx]
        rw [e1]; exact v2
theorem crep_rdsl {α : Type} {R : Rd α} {f : α → List C} {sz : Nat} (hR : RdC R f) (hsz : ∀ x, (f x).length = sz) {w : World} {a : Option Addr} {cap : Nat} {xs : List α} (hs : SlAt sz R w a xs) (hle : xs.length ≤ cap) :
    CRep w (fun b => b < w.heap.size) (.slice a xs.length cap) (.sl xs.length (xs.flatMap f)) := by
  by_cases h0 : xs.length = 0
  · have : xs = [] := List.eq_nil_of_length_eq_zero h0
    subst this
    exact .sl0
  · obtain ⟨b, off, rfl, hlt, hc⟩ := hs (by omega)
    have key := flat_cells hR hsz xs off hc
    refine .sl (fun j => (w.cell? ⟨b, off + j, none⟩).getD undef) hlt hle (fun j hj => ?_) (fun j hj => ?_)
    · obtain ⟨v, v1, _⟩ := key j hj
      rw [v1]; rfl
    · obtain ⟨v, v1, v2⟩ := key j hj
      show CRep w _ ((w.cell? ⟨b, off + j, none⟩).getD undef) _
      rw [v1]; exact v2
theorem rdc_sl {α : Type} {R : Rd α} {f : α → List C} {sz by_ : Nat} (hR : RdC R f) (hsz : ∀ x, (f x).length = sz) : RdC (RSl sz by_ R) fun xs => [.sl xs.length (xs.flatMap f)] := by
  rintro w cs xs ⟨a, cap, rfl, hs, hle, _⟩
  exact rdc_one (crep_rdsl hR hsz hs hle)
end Go.Proofs.Ytgimfjmigoibgaa.A
/- Lists as cells. -/
set_option linter.unusedSimpArgs false
set_option linter.unusedVariables false
set_option maxRecDepth 100000
set_option maxHeartbeats 4000000
namespace Go.Proofs.Ytgimfjmigoibgaa.A
open Go
/-! ### lists of strings, of integers, of bools -/
theorem sC_flat (l : List ByteArray) : l.flatMap (fun s => [vS s]) = sC l := by induction l with | nil => rfl | cons x l ih => rw [List.flatMap_cons, ih]; rfl
theorem iC_flat (l : List Int) : l.flatMap (fun s => [vI s]) = iC l := by induction l with | nil => rfl | cons x l ih => rw [List.flatMap_cons, ih]; rfl
/-! ### slices of slices -/
/-! ### from place to place -/
end Go.Proofs.Ytgimfjmigoibgaa.A
/- Lists as cells: back from cells; from place to place. -/
set_option linter.unusedSimpArgs false
set_option linter.unusedVariables false
set_option maxRecDepth 100000
set_option maxHeartbeats 4000000
namespace Go.Proofs.Ytgimfjmigoibgaa.A
open Go
variable {P : Program} {T : TT} {Q : Exit → St → Prop} {st : St}
/-! ### from place to place -/
theorem drop_step (l : List ByteArray) (i : Int) (h0 : 0 ≤ i) (h : i < nS l) : l.drop i.toNat = sAt l i.toNat :: l.drop (i + 1).toNat := by
  have hn := nS_eq l
  have e : (i + 1).toNat = i.toNat + 1 := by omega
  rw [e]; exact drop_cons _ (by omega)
theorem drop_fin (l : List ByteArray) (i : Int) (h : ¬ i < nS l) : l.drop i.toNat = [] := by
  have hn := nS_eq l
  exact List.drop_eq_nil_of_le (by omega)
theorem ext_sAt {l m : List ByteArray} (h : nS l = nS m) (k : ∀ n : Nat, n < nS l → sAt l n = sAt m n) : l = m := by
  have h1 := nS_eq l; have h2 := nS_eq m
  apply List.ext_getElem (by omega)
  intro i a b
  have := k i (by omega)
  rw [sAt, sAt, List.getD_eq_getElem?_getD, List.getD_eq_getElem?_getD, List.getElem?_eq_getElem a, List.getElem?_eq_getElem b] at this
  exact this
def idxGo (w : ByteArray) : List ByteArray → Int → Int
  | [], _ => -1
  | x :: l, i => if w = x then i else idxGo w l (i + 1)
def idxS (l : List ByteArray) (w : ByteArray) : Int := idxGo w l 0
def sameS (l m : List ByteArray) : Bool := decide (l = m)
theorem sameS_yes {l m : List ByteArray} (h : nS l = nS m) (k : ∀ n : Nat, n < nS l → sAt l n = sAt m n) : sameS l m = true := by unfold sameS; rw [decide_eq_true_eq]; exact ext_sAt h k
theorem sameS_no {l m : List ByteArray} (h : nS l ≠ nS m ∨ ∃ n : Nat, sAt l n ≠ sAt m n) : sameS l m = false := by
  unfold sameS; rw [decide_eq_false_iff_not]; rintro rfl
  rcases h with h | ⟨n, h⟩
  · exact h rfl
  · exact h rfl
end Go.Proofs.Ytgimfjmigoibgaa.A
/- Readings of structs whose fields take one cell each. No program in sight. -/
set_option linter.unusedSimpArgs false
set_option linter.unusedVariables false
set_option maxRecDepth 100000
set_option maxHeartbeats 4000000
namespace Go.Proofs.Ytgimfjmigoibgaa
open Go.RowKit Go.ChangeShapes Go.WideShapes Go.ChangeAt
def RRec2 {α β : Type} (A : Rd α) (B : Rd β) : Rd (α × β) := fun w cs x => ∃ c0 c1, cs = [c0, c1] ∧ A w [c0] x.1 ∧ B w [c1] x.2
def RRec3 {α β γ : Type} (A : Rd α) (B : Rd β) (C : Rd γ) : Rd (α × β × γ) := fun w cs x => ∃ c0 c1 c2, cs = [c0, c1, c2] ∧ A w [c0] x.1 ∧ B w [c1] x.2.1 ∧ C w [c2] x.2.2
section
variable {H : Type} {enc : TypeId × Value → H} {P : Program} {w : World}
theorem lk_fld {α : Type} {A : Rd α} {t : TypeId} {fs : Array Field} (ht : P.underlying t = some (.struct fs)) (i : Nat) (f : Field) (hf : fs[i]? = some f) (hA : Lk enc P w f.type A) :
    ∀ (fuel : Nat) (cs : List Value) (x : DataW H × List MemPlace), DataW.trod enc P w 0 (fun _ => true) true fuel t cs = some x → (x.1.weights P t).all (· ≤ reachBytes) = true → ∃ a, A w ((cs.drop f.offset).take (P.cellsOf f.type)) a := by
  intro fuel cs x h hz
  obtain ⟨xs, n, rfl, rfl, hl, hxs, hall⟩ := DataW.trod_struct ht h
  have h1 := hall i f hf
  have hi : i < xs.length := by rw [hxs]; exact (Array.getElem?_eq_some_iff.1 hf).1
  rw [List.getElem?_eq_getElem hi] at h1
  refine hA _ _ _ h1 (List.all_eq_true.2 fun m hm => List.all_eq_true.1 hz m ?_)
  simp only [DataW.weights, ht]
  exact DataW.weights_mem_each (ts := fs.toList.map (·.type)) (j := i) (t := f.type) (d := xs[i].1) (ds := xs.map (·.1)) (by simp [hf]) (by rw [List.getElem?_map, List.getElem?_eq_getElem hi]; rfl) m hm
theorem lk_len {t : TypeId} {fs : Array Field} (ht : P.underlying t = some (.struct fs)) {fuel : Nat} {cs : List Value} {x : DataW H × List MemPlace} (h : DataW.trod enc P w 0 (fun _ => true) true fuel t cs = some x) : cs.length = P.cellsOf t := by
  obtain ⟨xs, n, rfl, rfl, hl, hxs, hall⟩ := DataW.trod_struct ht h
  exact hl
theorem lk_rec2 {α β : Type} {A : Rd α} {B : Rd β} {t : TypeId} {f0 f1 : Field} (ht : P.underlying t = some (.struct #[f0, f1])) (ho : (f0.offset, f1.offset, P.cellsOf f0.type, P.cellsOf f1.type, P.cellsOf t) = (0, 1, 1, 1, 2))
    (ha : Lk enc P w f0.type A) (hb : Lk enc P w f1.type B) : Lk enc P w t (RRec2 A B) := by
  intro fuel cs x h hz
  simp only [Prod.mk.injEq] at ho
  obtain ⟨o0, o1, k0, k1, k⟩ := ho
  have hl := lk_len ht h
  rw [k] at hl
  match cs, hl with
  | [c0, c1], _ =>
    obtain ⟨a, h0⟩ := lk_fld ht 0 f0 rfl ha _ _ _ h hz
    obtain ⟨b, h1⟩ := lk_fld ht 1 f1 rfl hb _ _ _ h hz
    rw [o0, k0] at h0; rw [o1, k1] at h1
    exact ⟨(a, b), c0, c1, rfl, h0, h1⟩
theorem lk_rec3 {α β γ : Type} {A : Rd α} {B : Rd β} {C : Rd γ} {t : TypeId} {f0 f1 f2 : Field} (ht : P.underlying t = some (.struct #[f0, f1, f2])) (ho : (f0.offset, f1.offset, f2.offset, P.cellsOf f0.type, P.cellsOf f1.type, P.cellsOf f2.type, P.cellsOf t) = (0, 1, 2, 1, 1, 1, 3))
    (ha : Lk enc P w f0.type A) (hb : Lk enc P w f1.type B) (hc : Lk enc P w f2.type C) : Lk enc P w t (RRec3 A B C) := by
  intro fuel cs x h hz
  simp only [Prod.mk.injEq] at ho
  obtain ⟨o0, o1, o2, k0, k1, k2, k⟩ := ho
  have hl := lk_len ht h
  rw [k] at hl
  match cs, hl with
  | [c0, c1, c2], _ =>
    obtain ⟨a, h0⟩ := lk_fld ht 0 f0 rfl ha _ _ _ h hz
    obtain ⟨b, h1⟩ := lk_fld ht 1 f1 rfl hb _ _ _ h hz
    obtain ⟨c, h2⟩ := lk_fld ht 2 f2 rfl hc _ _ _ h hz
    rw [o0, k0] at h0; rw [o1, k1] at h1; rw [o2, k2] at h2
    exact ⟨(a, b, c), c0, c1, c2, rfl, h0, h1, h2⟩
end
end Go.Proofs.Ytgimfjmigoibgaa
/- The ghost machine: structs that came in, as cells. -/
set_option linter.unusedSimpArgs false
set_option linter.unusedVariables false
set_option maxRecDepth 100000
set_option maxHeartbeats 4000000
namespace Go.Proofs.Ytgimfjmigoibgaa.A
open Go
theorem rdc_rec2 {α β : Type} {A : Rd α} {B : Rd β} {f : α → List C} {g : β → List C} (ha : RdC A f) (hb : RdC B g) : RdC (RRec2 A B) fun x => f x.1 ++ g x.2 := by
  rintro w cs x ⟨c0, c1, rfl, h1, h2⟩
  exact rdc_pair (s1 := 1) (s2 := 1) ha hb w _ x ⟨[c0], [c1], rfl, rfl, rfl, h1, h2⟩
theorem rdc_rec3 {α β γ : Type} {A : Rd α} {B : Rd β} {D : Rd γ} {f : α → List C} {g : β → List C} {h : γ → List C} (ha : RdC A f) (hb : RdC B g) (hd : RdC D h) : RdC (RRec3 A B D) fun x => f x.1 ++ (g x.2.1 ++ h x.2.2) := by
  rintro w cs x ⟨c0, c1, c2, rfl, h1, h2, h3⟩
  exact rdc_pair (s1 := 1) (s2 := 2) ha (rdc_pair (s1 := 1) (s2 := 1) hb hd) w _ x ⟨[c0], [c1, c2], rfl, rfl, rfl, h1, ⟨[c1], [c2], rfl, rfl, rfl, h2, h3⟩⟩
end Go.Proofs.Ytgimfjmigoibgaa.A
/- Lexing: what the functions of the reference, layer 12, give. -/
set_option linter.unusedSimpArgs false
set_option linter.unusedVariables false
set_option maxRecDepth 100000
set_option maxHeartbeats 4000000
namespace Go.Proofs.Ytgimfjmigoibgaa.A
open Go
theorem e_letter12 : Enters Try.prog 64 := enters Try.func64 (by kernel_rfl) (by kernel_rfl)
theorem pc_letter12 (n : Int) : PC Try.prog T 64 [.v false [vU n]] (ret1 (.st (vB (isLetI n)))) [] := by
  refine pc_of tok Try.func64 rfl (by rfl) ?_
  obtain ⟨j, hj⟩ : ∃ j : J, j = std Try.prog T := ⟨_, rfl⟩
  generalize y_isLetI : @isLetI = x_isLetI at *
  (repeat' first | ((first | with_reducible refine tr_cut (fun h => ?_) (fun h => ?_) | refine aw_condj (by cbv) (fun h => ?_) (fun h => ?_)) <;> (try simp (disch := omega) only [hj, std, cmpI, cmpB, satB, Bool.not_eq_true, Bool.not_eq_false, decide_eq_true_eq, decide_eq_false_iff_not, beq_iff_eq, bne_iff_ne, bne_eq_false_iff_eq, beq_eq_false_iff_ne, ne_eq, reduceCtorEq, not_true_eq_false, not_false_eq_true, add64, sub64] at h) <;> (try (exfalso; omega))) | (with_reducible refine tr_alt (fun h => ?_) ?_ <;> (try (exfalso; omega))) | (with_reducible refine tr_ob ?_ ?_) | (with_reducible refine tr_done ?_) | (refine aw_tr hj tok book0 (by cbv) ?_) | (refine aw_seq fun K hK => ?_) | (refine aw_tr1 hj tok book0 (by cbv) ?_) | (refine aw_skip ?_) | (refine aw_block ?_) | (refine aw_exit ?_) | (refine aw_ret ⟨.inr rfl, ret_okj hj (by cbv) ?_ ?_⟩) | (refine aw_ret ?_) | (with_reducible refine th_n ?_) | (with_reducible refine th_r ?_) | (with_reducible refine th_x ?_) | (with_reducible refine blk_n ?_) | (with_reducible refine blk_r ?_) | (with_reducible refine blk_x ?_) | (with_reducible refine blk_y rfl ?_) | (refine ⟨.inr rfl, ret_okj hj (by cbv) ?_ ?_⟩) | (refine ⟨.inl rfl, ret_okj hj (by cbv) ?_ ?_⟩) | (with_reducible apply_assumption -symm -exfalso only [*]))
  all_goals ((try subst y_isLetI))
  all_goals first | exact obl0 | ((repeat (refine obl1 (by first | (simp (disch := omega) only [hj, std, cmpI, cmpB, satB, add64, sub64, isLetI] <;> omega) | (simp (disch := omega) [hj, std, cmpI, cmpB, satB, add64, sub64, isLetI] <;> omega) | (rw [Bool.eq_iff_iff]; simp (disch := omega) [hj, std, cmpI, cmpB, satB, add64, sub64, isLetI] <;> omega) | omega) ?_)); exact obl0) | (refine ret1_b ?_ <;> first | (simp (disch := omega) only [hj, std, cmpI, cmpB, satB, add64, sub64, isLetI] <;> omega) | (simp (disch := omega) [hj, std, cmpI, cmpB, satB, add64, sub64, isLetI] <;> omega) | (rw [Bool.eq_iff_iff]; simp (disch := omega) [hj, std, cmpI, cmpB, satB, add64, sub64, isLetI] <;> omega) | omega)
theorem c_letter12 (n : Int) : (std Try.prog T).pc 64 [.v false [vU n]] (ret1 (.st (vB (isLetI n)))) [] := ⟨e_letter12, pc_letter12 n⟩
theorem pc_more12 (n : Int) : PC Try.prog T 65 [.v false [vU n]] (ret1 (.st (vB (isMoreI n)))) [] := by
  refine pc_of tok Try.func65 rfl (by rfl) ?_
  obtain ⟨j, hj⟩ : ∃ j : J, j = std Try.prog T := ⟨_, rfl⟩
  generalize y_isLetI : @isLetI = x_isLetI at *
  generalize y_isMoreI : @isMoreI = x_isMoreI at *
  (repeat' first | ((first | with_reducible refine tr_cut (fun h => ?_) (fun h => ?_) | refine aw_condj (by cbv) (fun h => ?_) (fun h => ?_)) <;> (try simp (disch := omega) only [hj, std, cmpI, cmpB, satB, Bool.not_eq_true, Bool.not_eq_false, decide_eq_true_eq, decide_eq_false_iff_not, beq_iff_eq, bne_iff_ne, bne_eq_false_iff_eq, beq_eq_false_iff_ne, ne_eq, reduceCtorEq, not_true_eq_false, not_false_eq_true, add64, sub64] at h) <;> (try (exfalso; omega))) | (with_reducible refine tr_alt (fun h => ?_) ?_ <;> (try (exfalso; omega))) | (with_reducible refine tr_ob ?_ ?_) | (with_reducible refine tr_done ?_) | (refine aw_tr hj tok (book1 x_isLetI x_isMoreI) (by cbv) ?_) | (refine aw_seq fun K hK => ?_) | (refine aw_tr1 hj tok (book1 x_isLetI x_isMoreI) (by cbv) ?_) | (refine aw_skip ?_) | (refine aw_block ?_) | (refine aw_exit ?_) | (refine aw_ret ⟨.inr rfl, ret_okj hj (by cbv) ?_ ?_⟩) | (refine aw_ret ?_) | (with_reducible refine th_n ?_) | (with_reducible refine th_r ?_) | (with_reducible refine th_x ?_) | (with_reducible refine blk_n ?_) | (with_reducible refine blk_r ?_) | (with_reducible refine blk_x ?_) | (with_reducible refine blk_y rfl ?_) | (refine ⟨.inr rfl, ret_okj hj (by cbv) ?_ ?_⟩) | (refine ⟨.inl rfl, ret_okj hj (by cbv) ?_ ?_⟩) | (with_reducible apply_assumption -symm -exfalso only [*]))
  all_goals ((try subst y_isLetI); (try subst y_isMoreI))
  all_goals first | exact obl0 | ((repeat (refine obl1 (by first | (rw [hj]; exact c_letter12 _) | (simp (disch := omega) only [hj, std, cmpI, cmpB, satB, add64, sub64, isMoreI, *] <;> omega) | (simp (disch := omega) [hj, std, cmpI, cmpB, satB, add64, sub64, isMoreI, *] <;> omega) | (rw [Bool.eq_iff_iff]; simp (disch := omega) [hj, std, cmpI, cmpB, satB, add64, sub64, isMoreI, *] <;> omega) | omega) ?_)); exact obl0) | (refine ret1_b ?_ <;> first | (rw [hj]; exact c_letter12 _) | (simp (disch := omega) only [hj, std, cmpI, cmpB, satB, add64, sub64, isMoreI, *] <;> omega) | (simp (disch := omega) [hj, std, cmpI, cmpB, satB, add64, sub64, isMoreI, *] <;> omega) | (rw [Bool.eq_iff_iff]; simp (disch := omega) [hj, std, cmpI, cmpB, satB, add64, sub64, isMoreI, *] <;> omega) | omega)
end Go.Proofs.Ytgimfjmigoibgaa.A
/- Names and terminals: what the functions of lex and of reference 12 give. -/
set_option linter.unusedSimpArgs false
set_option linter.unusedVariables false
set_option maxRecDepth 100000
set_option maxHeartbeats 4000000
namespace Go.Proofs.Ytgimfjmigoibgaa.A
open Go
theorem name_no3 {s : ByteArray} {i : Int} (h0 : 0 ≤ i) (h : i < s.size) (h2 : spanI isMoreI s i = spanI isMoreI s 0) (h3 : isMoreI (bt s i.toNat) = false) : nameI s = false :=
  decide_eq_false fun hh => by have := spanI_stop (p := isMoreI) h0 h3; omega
theorem name_ok {s : ByteArray} {i : Int} (h0 : 0 ≤ i) (h : ¬ i < s.size) (h1 : i ≤ s.size) (h2 : spanI isMoreI s i = spanI isMoreI s 0) (h3 : isLetI (bt s 0) = true) (h4 : ¬ s.size < 1) (h5 : ¬ s.size > 32) : nameI s = true :=
  decide_eq_true ⟨by omega, by omega, h3, by have := spanI_end (p := isMoreI) h0 h; omega⟩
theorem term_no3 {s : ByteArray} {i : Int} (h0 : 0 ≤ i) (h : i < s.size) (h2 : spanI isSpelI s i = spanI isSpelI s 0) (h3 : isSpelI (bt s i.toNat) = false) : termI s = false :=
  decide_eq_false fun hh => by have := spanI_stop (p := isSpelI) h0 h3; omega
theorem term_ok {s : ByteArray} {i : Int} (h0 : 0 ≤ i) (h : ¬ i < s.size) (h1 : i ≤ s.size) (h2 : spanI isSpelI s i = spanI isSpelI s 0) (h4 : ¬ s.size < 1) (h5 : ¬ s.size > 32) : termI s = true :=
  decide_eq_true ⟨by omega, by omega, by have := spanI_end (p := isSpelI) h0 h; omega⟩
theorem c_more12 (n : Int) : pc 65 [.v false [vU n]] (ret1 (.st (vB (isMoreI n)))) := ⟨enters Try.func65 (by kernel_rfl) (by kernel_rfl), pc_more12 n⟩
theorem pc_Name12 (s : ByteArray) (hs : s.size < 4611686018427387904) : PC Try.prog T 39 [.v false [vS s]] (ret1 (.st (vB (nameI s)))) [] := by
  refine pc_of tok Try.func39 rfl (by rfl) ?_
  obtain ⟨j, hj⟩ : ∃ j : J, j = std Try.prog T := ⟨_, rfl⟩
  have hm : Try.prog.follows .mixedOrders = true := by kernel_rfl
  generalize y_isLetI : @isLetI = x_isLetI at *
  generalize y_isMoreI : @isMoreI = x_isMoreI at *
  generalize y_nameI : @nameI = x_nameI at *
  generalize y_spanI : @spanI = x_spanI at *
  (repeat' first | ((first | with_reducible refine tr_cut (fun h => ?_) (fun h => ?_) | refine aw_condj (by cbv) (fun h => ?_) (fun h => ?_)) <;> (try simp (disch := omega) only [hj, std, cmpI, cmpB, satB, Bool.not_eq_true, Bool.not_eq_false, decide_eq_true_eq, decide_eq_false_iff_not, beq_iff_eq, bne_iff_ne, bne_eq_false_iff_eq, beq_eq_false_iff_ne, ne_eq, reduceCtorEq, not_true_eq_false, not_false_eq_true, pl0, if_true, cmpS_eq, cmpS_neq, Bool.not_eq_eq_eq_not, Bool.not_true, Bool.not_false, Bool.not_eq_true', add64, sub64] at h) <;> (try (exfalso; omega))) | (with_reducible refine tr_alt (fun h => ?_) ?_ <;> (try (exfalso; omega))) | (with_reducible refine tr_ob ?_ ?_) | (with_reducible refine tr_done ?_) | (refine aw_tr hj tok (book1 x_isLetI x_isMoreI) (by cbv) ?_) | (refine aw_seq fun K hK => ?_) | (refine aw_tr1 hj tok (book1 x_isLetI x_isMoreI) (by cbv) ?_) | (refine aw_skip ?_) | (refine aw_block ?_) | (refine aw_exit ?_) | (refine aw_ret ⟨.inr rfl, ret_okj hj (by cbv) ?_ ?_⟩) | (refine aw_ret ?_) | (with_reducible refine th_n ?_) | (with_reducible refine th_r ?_) | (with_reducible refine th_x ?_) | (with_reducible refine blk_n ?_) | (with_reducible refine blk_r ?_) | (with_reducible refine blk_x ?_) | (with_reducible refine blk_y rfl ?_) | (refine ⟨.inr rfl, ret_okj hj (by cbv) ?_ ?_⟩) | (refine ⟨.inl rfl, ret_okj hj (by cbv) ?_ ?_⟩) | ((with_reducible refine ⟨(_, _, _, _, _, _, _, _, _), by cbv, ?_, ?_⟩)) | ((with_reducible refine ⟨(_, _, _, _, _, _, _, _), by cbv, ?_, ?_⟩)) | ((with_reducible refine ⟨(_, _, _, _, _, _, _), by cbv, ?_, ?_⟩)) | ((with_reducible refine ⟨(_, _, _, _, _, _), by cbv, ?_, ?_⟩)) | ((with_reducible refine ⟨(_, _, _, _, _), by cbv, ?_, ?_⟩)) | ((with_reducible refine ⟨(_, _, _, _), by cbv, ?_, ?_⟩)) | ((with_reducible refine ⟨(_, _, _), by cbv, ?_, ?_⟩)) | ((with_reducible refine ⟨(_, _), by cbv, ?_, ?_⟩)) | ((with_reducible refine ⟨_, by cbv, ?_, ?_⟩)) | (with_reducible apply_assumption -symm -exfalso only [*]))
  all_goals ((try subst y_isLetI); (try subst y_isMoreI); (try subst y_nameI); (try subst y_spanI))
  all_goals (try (repeat' first | with_reducible exact obl0 | with_reducible refine obl1 ?_ ?_))
  all_goals (try first | with_reducible exact True.intro | (refine ob_pc hj ?_; (try rw [hj]); first | exact c_letter12 _) | (refine ob_pcn hj ?_; (try rw [hj]); first | exact c_letter12 _) | ((first | refine ob_le hj ?_ | refine ob_lei hj ?_ | refine ob_inb hj ?_ | refine ob_pos hj ?_ | refine ob_ne0 hj ?_ | refine ob_eqb hj ?_); (first | rfl | first | omega | (simp only [hj, std]; split <;> omega) | (simp (disch := omega) only [hj, std, cmpI, cmpB, satB, add64, sub64, ite0, pl0, pl2, pl3, sb0, if_true, if_false, eq_self] <;> omega) | (simp (disch := omega) [hj, std, cmpI, cmpB, satB, add64, sub64, ite0, pl0, pl2, pl3, sb0, if_true, if_false, eq_self] <;> omega))) | ((refine ret1_b (name_no1 ?_); omega)) | ((have hl := ‹isLetI _ = false›; exact ret1_b (name_no2 hl))))
  refine aw_lpj hj [(0, .keep), (3, .keep)] [] (fun i : Int => stOf 29 [(0, .one (.c (vS s))), (3, .one (.c (vI i)))] []) (fun i => s.size - i.toNat) (fun i => 0 ≤ i ∧ i ≤ s.size ∧ spanI isMoreI s i = spanI isMoreI s 0) 0 (by generalize @isLetI = x_isLetI; generalize @isMoreI = x_isMoreI; generalize @nameI = x_nameI; generalize @spanI = x_spanI; cbv) ⟨by omega, by omega, rfl⟩ fun i ⟨i1, i2, i3⟩ => ?_
  generalize y_isLetI : @isLetI = x_isLetI at *
  generalize y_isMoreI : @isMoreI = x_isMoreI at *
  generalize y_nameI : @nameI = x_nameI at *
  generalize y_spanI : @spanI = x_spanI at *
  (repeat' first | ((first | with_reducible refine tr_cut (fun h => ?_) (fun h => ?_) | refine aw_condj (by cbv) (fun h => ?_) (fun h => ?_)) <;> (try simp (disch := omega) only [hj, std, cmpI, cmpB, satB, Bool.not_eq_true, Bool.not_eq_false, decide_eq_true_eq, decide_eq_false_iff_not, beq_iff_eq, bne_iff_ne, bne_eq_false_iff_eq, beq_eq_false_iff_ne, ne_eq, reduceCtorEq, not_true_eq_false, not_false_eq_true, pl0, if_true, cmpS_eq, cmpS_neq, Bool.not_eq_eq_eq_not, Bool.not_true, Bool.not_false, Bool.not_eq_true', add64, sub64] at h) <;> (try (exfalso; omega))) | (with_reducible refine tr_alt (fun h => ?_) ?_ <;> (try (exfalso; omega))) | (with_reducible refine tr_ob ?_ ?_) | (with_reducible refine tr_done ?_) | (refine aw_tr hj tok (book1 x_isLetI x_isMoreI) (by cbv) ?_) | (refine aw_seq fun K hK => ?_) | (refine aw_tr1 hj tok (book1 x_isLetI x_isMoreI) (by cbv) ?_) | (refine aw_skip ?_) | (refine aw_block ?_) | (refine aw_exit ?_) | (refine aw_ret ⟨.inr rfl, ret_okj hj (by cbv) ?_ ?_⟩) | (refine aw_ret ?_) | (with_reducible refine th_n ?_) | (with_reducible refine th_r ?_) | (with_reducible refine th_x ?_) | (with_reducible refine blk_n ?_) | (with_reducible refine blk_r ?_) | (with_reducible refine blk_x ?_) | (with_reducible refine blk_y rfl ?_) | (refine ⟨.inr rfl, ret_okj hj (by cbv) ?_ ?_⟩) | (refine ⟨.inl rfl, ret_okj hj (by cbv) ?_ ?_⟩) | ((with_reducible refine ⟨(_, _, _, _, _, _, _, _, _), by cbv, ?_, ?_⟩)) | ((with_reducible refine ⟨(_, _, _, _, _, _, _, _), by cbv, ?_, ?_⟩)) | ((with_reducible refine ⟨(_, _, _, _, _, _, _), by cbv, ?_, ?_⟩)) | ((with_reducible refine ⟨(_, _, _, _, _, _), by cbv, ?_, ?_⟩)) | ((with_reducible refine ⟨(_, _, _, _, _), by cbv, ?_, ?_⟩)) | ((with_reducible refine ⟨(_, _, _, _), by cbv, ?_, ?_⟩)) | ((with_reducible refine ⟨(_, _, _), by cbv, ?_, ?_⟩)) | ((with_reducible refine ⟨(_, _), by cbv, ?_, ?_⟩)) | ((with_reducible refine ⟨_, by cbv, ?_, ?_⟩)) | (with_reducible apply_assumption -symm -exfalso only [*]))
  all_goals ((try subst y_isLetI); (try subst y_isMoreI); (try subst y_nameI); (try subst y_spanI))
  all_goals (try (repeat' first | with_reducible exact obl0 | with_reducible refine obl1 ?_ ?_))
  all_goals (try first | with_reducible exact True.intro | (refine ob_pc hj ?_; (try rw [hj]); first | exact c_more12 _) | (refine ob_pcn hj ?_; (try rw [hj]); first | exact c_more12 _) | ((first | refine ob_le hj ?_ | refine ob_lei hj ?_ | refine ob_inb hj ?_ | refine ob_pos hj ?_ | refine ob_ne0 hj ?_ | refine ob_eqb hj ?_); (first | rfl | first | omega | (simp only [hj, std]; split <;> omega) | (simp (disch := omega) only [hj, std, cmpI, cmpB, satB, add64, sub64, ite0, pl0, pl2, pl3, sb0, if_true, if_false, eq_self] <;> omega) | (simp (disch := omega) [hj, std, cmpI, cmpB, satB, add64, sub64, ite0, pl0, pl2, pl3, sb0, if_true, if_false, eq_self] <;> omega))) | ((have hi := ‹i < (s.size : Int)›; have hm := ‹isMoreI _ = false›; exact ret1_b (name_no3 i1 hi i3 hm))) | ((have hi := ‹¬ i < (s.size : Int)›; have hl := ‹isLetI _ = true›; exact ret1_b (name_ok i1 hi i2 i3 hl (by omega) (by omega)))) | ((have hi := ‹i < (s.size : Int)›; have hm := ‹isMoreI _ = true›; simp (disch := omega) only [hj, std, add64]; first | omega | exact ⟨by omega, by omega, (spanI_step i1 hi hm).trans i3⟩)))
theorem pc_Term12 (s : ByteArray) (hs : s.size < 4611686018427387904) : PC Try.prog T 41 [.v false [vS s]] (ret1 (.st (vB (termI s)))) [] := by
  refine pc_of tok Try.func41 rfl (by rfl) ?_
  obtain ⟨j, hj⟩ : ∃ j : J, j = std Try.prog T := ⟨_, rfl⟩
  have hm : Try.prog.follows .mixedOrders = true := by kernel_rfl
  generalize y_isLetI : @isLetI = x_isLetI at *
  generalize y_isMoreI : @isMoreI = x_isMoreI at *
  generalize y_termI : @termI = x_termI at *
  generalize y_spanI : @spanI = x_spanI at *
  generalize y_isSpelI : @isSpelI = x_isSpelI at *
  (repeat' first | ((first | with_reducible refine tr_cut (fun h => ?_) (fun h => ?_) | refine aw_condj (by cbv) (fun h => ?_) (fun h => ?_)) <;> (try simp (disch := omega) only [hj, std, cmpI, cmpB, satB, Bool.not_eq_true, Bool.not_eq_false, decide_eq_true_eq, decide_eq_false_iff_not, beq_iff_eq, bne_iff_ne, bne_eq_false_iff_eq, beq_eq_false_iff_ne, ne_eq, reduceCtorEq, not_true_eq_false, not_false_eq_true, pl0, if_true, cmpS_eq, cmpS_neq, Bool.not_eq_eq_eq_not, Bool.not_true, Bool.not_false, Bool.not_eq_true', add64, sub64] at h) <;> (try (exfalso; omega))) | (with_reducible refine tr_alt (fun h => ?_) ?_ <;> (try (exfalso; omega))) | (with_reducible refine tr_ob ?_ ?_) | (with_reducible refine tr_done ?_) | (refine aw_tr hj tok (book1 x_isLetI x_isMoreI) (by cbv) ?_) | (refine aw_seq fun K hK => ?_) | (refine aw_tr1 hj tok (book1 x_isLetI x_isMoreI) (by cbv) ?_) | (refine aw_skip ?_) | (refine aw_block ?_) | (refine aw_exit ?_) | (refine aw_ret ⟨.inr rfl, ret_okj hj (by cbv) ?_ ?_⟩) | (refine aw_ret ?_) | (with_reducible refine th_n ?_) | (with_reducible refine th_r ?_) | (with_reducible refine th_x ?_) | (with_reducible refine blk_n ?_) | (with_reducible refine blk_r ?_) | (with_reducible refine blk_x ?_) | (with_reducible refine blk_y rfl ?_) | (refine ⟨.inr rfl, ret_okj hj (by cbv) ?_ ?_⟩) | (refine ⟨.inl rfl, ret_okj hj (by cbv) ?_ ?_⟩) | ((with_reducible refine ⟨(_, _, _, _, _, _, _, _, _), by cbv, ?_, ?_⟩)) | ((with_reducible refine ⟨(_, _, _, _, _, _, _, _), by cbv, ?_, ?_⟩)) | ((with_reducible refine ⟨(_, _, _, _, _, _, _), by cbv, ?_, ?_⟩)) | ((with_reducible refine ⟨(_, _, _, _, _, _), by cbv, ?_, ?_⟩)) | ((with_reducible refine ⟨(_, _, _, _, _), by cbv, ?_, ?_⟩)) | ((with_reducible refine ⟨(_, _, _, _), by cbv, ?_, ?_⟩)) | ((with_reducible refine ⟨(_, _, _), by cbv, ?_, ?_⟩)) | ((with_reducible refine ⟨(_, _), by cbv, ?_, ?_⟩)) | ((with_reducible refine ⟨_, by cbv, ?_, ?_⟩)) | (with_reducible apply_assumption -symm -exfalso only [*]))
  all_goals ((try subst y_isLetI); (try subst y_isMoreI); (try subst y_termI); (try subst y_spanI); (try subst y_isSpelI))
  all_goals (try (repeat' first | with_reducible exact obl0 | with_reducible refine obl1 ?_ ?_))
  all_goals (try first | with_reducible exact True.intro | ((first | refine ob_le hj ?_ | refine ob_lei hj ?_ | refine ob_inb hj ?_ | refine ob_pos hj ?_ | refine ob_ne0 hj ?_ | refine ob_eqb hj ?_); (first | rfl | first | omega | (simp only [hj, std]; split <;> omega) | (simp (disch := omega) only [hj, std, cmpI, cmpB, satB, add64, sub64, ite0, pl0, pl2, pl3, sb0, if_true, if_false, eq_self] <;> omega) | (simp (disch := omega) [hj, std, cmpI, cmpB, satB, add64, sub64, ite0, pl0, pl2, pl3, sb0, if_true, if_false, eq_self] <;> omega))) | ((refine ret1_b (term_no1 ?_); omega)))
  refine aw_lpj hj [(0, .keep), (3, .keep)] [] (fun i : Int => stOf 40 [(0, .one (.c (vS s))), (3, .one (.c (vI i)))] []) (fun i => s.size - i.toNat) (fun i => 0 ≤ i ∧ i ≤ s.size ∧ spanI isSpelI s i = spanI isSpelI s 0) 0 (by generalize @isLetI = x_isLetI; generalize @isMoreI = x_isMoreI; generalize @termI = x_termI; generalize @spanI = x_spanI; generalize @isSpelI = x_isSpelI; cbv) ⟨by omega, by omega, rfl⟩ fun i ⟨i1, i2, i3⟩ => ?_
  generalize y_isLetI : @isLetI = x_isLetI at *
  generalize y_isMoreI : @isMoreI = x_isMoreI at *
  generalize y_termI : @termI = x_termI at *
  generalize y_spanI : @spanI = x_spanI at *
  generalize y_isSpelI : @isSpelI = x_isSpelI at *
  (repeat' first | ((first | with_reducible refine tr_cut (fun h => ?_) (fun h => ?_) | refine aw_condj (by cbv) (fun h => ?_) (fun h => ?_)) <;> (try simp (disch := omega) only [hj, std, cmpI, cmpB, satB, Bool.not_eq_true, Bool.not_eq_false, decide_eq_true_eq, decide_eq_false_iff_not, beq_iff_eq, bne_iff_ne, bne_eq_false_iff_eq, beq_eq_false_iff_ne, ne_eq, reduceCtorEq, not_true_eq_false, not_false_eq_true, pl0, if_true, cmpS_eq, cmpS_neq, Bool.not_eq_eq_eq_not, Bool.not_true, Bool.not_false, Bool.not_eq_true', add64, sub64] at h) <;> (try (exfalso; omega))) | (with_reducible refine tr_alt (fun h => ?_) ?_ <;> (try (exfalso; omega))) | (with_reducible refine tr_ob ?_ ?_) | (with_reducible refine tr_done ?_) | (refine aw_tr hj tok (book1 x_isLetI x_isMoreI) (by cbv) ?_) | (refine aw_seq fun K hK => ?_) | (refine aw_tr1 hj tok (book1 x_isLetI x_isMoreI) (by cbv) ?_) | (refine aw_skip ?_) | (refine aw_block ?_) | (refine aw_exit ?_) | (refine aw_ret ⟨.inr rfl, ret_okj hj (by cbv) ?_ ?_⟩) | (refine aw_ret ?_) | (with_reducible refine th_n ?_) | (with_reducible refine th_r ?_) | (with_reducible refine th_x ?_) | (with_reducible refine blk_n ?_) | (with_reducible refine blk_r ?_) | (with_reducible refine blk_x ?_) | (with_reducible refine blk_y rfl ?_) | (refine ⟨.inr rfl, ret_okj hj (by cbv) ?_ ?_⟩) | (refine ⟨.inl rfl, ret_okj hj (by cbv) ?_ ?_⟩) | ((with_reducible refine ⟨(_, _, _, _, _, _, _, _, _), by cbv, ?_, ?_⟩)) | ((with_reducible refine ⟨(_, _, _, _, _, _, _, _), by cbv, ?_, ?_⟩)) | ((with_reducible refine ⟨(_, _, _, _, _, _, _), by cbv, ?_, ?_⟩)) | ((with_reducible refine ⟨(_, _, _, _, _, _), by cbv, ?_, ?_⟩)) | ((with_reducible refine ⟨(_, _, _, _, _), by cbv, ?_, ?_⟩)) | ((with_reducible refine ⟨(_, _, _, _), by cbv, ?_, ?_⟩)) | ((with_reducible refine ⟨(_, _, _), by cbv, ?_, ?_⟩)) | ((with_reducible refine ⟨(_, _), by cbv, ?_, ?_⟩)) | ((with_reducible refine ⟨_, by cbv, ?_, ?_⟩)) | (with_reducible apply_assumption -symm -exfalso only [*]))
  all_goals ((try subst y_isLetI); (try subst y_isMoreI); (try subst y_termI); (try subst y_spanI); (try subst y_isSpelI))
  all_goals (try (repeat' first | with_reducible exact obl0 | with_reducible refine obl1 ?_ ?_))
  all_goals (try first | with_reducible exact True.intro | ((first | refine ob_le hj ?_ | refine ob_lei hj ?_ | refine ob_inb hj ?_ | refine ob_pos hj ?_ | refine ob_ne0 hj ?_ | refine ob_eqb hj ?_); (first | rfl | first | omega | (simp only [hj, std]; split <;> omega) | (simp (disch := omega) only [hj, std, cmpI, cmpB, satB, add64, sub64, ite0, pl0, pl2, pl3, sb0, if_true, if_false, eq_self] <;> omega) | (simp (disch := omega) [hj, std, cmpI, cmpB, satB, add64, sub64, ite0, pl0, pl2, pl3, sb0, if_true, if_false, eq_self] <;> omega))) | ((have hi := ‹i < (s.size : Int)›; refine ret1_b (term_no3 i1 hi i3 ?_); refine decide_eq_false ?_; omega)) | ((have hi := ‹¬ i < (s.size : Int)›; exact ret1_b (term_ok i1 hi i2 i3 (by omega) (by omega)))) | ((have hi := ‹i < (s.size : Int)›; simp (disch := omega) only [hj, std, add64]; first | omega | (have hm : isSpelI (bt s i.toNat) = true := decide_eq_true (by omega); exact ⟨by omega, by omega, (spanI_step i1 hi hm).trans i3⟩))))
theorem c_Name12 {s : ByteArray} (hs : s.size ≤ 1000000) : pc 39 [.v false [vS s]] (ret1 (.st (vB (nameI s)))) := ⟨enters Try.func39 (by kernel_rfl) (by kernel_rfl), pc_Name12 s (by omega)⟩
theorem c_Term12 {s : ByteArray} (hs : s.size ≤ 1000000) : pc 41 [.v false [vS s]] (ret1 (.st (vB (termI s)))) := ⟨enters Try.func41 (by kernel_rfl) (by kernel_rfl), pc_Term12 s (by omega)⟩
end Go.Proofs.Ytgimfjmigoibgaa.A
/- Grammars: places in lists; lists alike; what the reference, layer 14, looks at. -/
set_option linter.unusedSimpArgs false
set_option linter.unusedVariables false
set_option maxRecDepth 100000
set_option maxHeartbeats 4000000
namespace Go.Proofs.Ytgimfjmigoibgaa.A
open Go
theorem iAt_mem (l : List Int) (i : Int) (h0 : 0 ≤ i) (h : i < nI l) : iAt l i.toNat ∈ l := by
  have hn := nI_eq l
  exact getD_mem _ (by omega)
def fewG (ns ts : List ByteArray) (rs : List Rl) : Int := if nS ns ≤ 12 ∧ nS ts ≤ 12 ∧ nR rs ≤ 40 ∧ (∀ r ∈ rs, nI r.2 ≤ 20) ∧ (∀ s ∈ ns, s.size ≤ 40) ∧ ∀ s ∈ ts, s.size ≤ 40 then 1 else 0
theorem fewG_yes {ns ts : List ByteArray} {rs : List Rl} (h : ¬ fewG ns ts rs = 0) : nS ns ≤ 12 ∧ nS ts ≤ 12 ∧ nR rs ≤ 40 ∧ (∀ r ∈ rs, nI r.2 ≤ 20) ∧ (∀ s ∈ ns, s.size ≤ 40) ∧ ∀ s ∈ ts, s.size ≤ 40 := by
  unfold fewG at h
  split at h
  · assumption
  · exact absurd rfl h
theorem fewG_no1 {ns ts : List ByteArray} {rs : List Rl} (h : ¬ (nS ns ≤ 12 ∧ nS ts ≤ 12 ∧ nR rs ≤ 40)) : fewG ns ts rs = 0 := if_neg fun hh => h ⟨hh.1, hh.2.1, hh.2.2.1⟩
theorem mem_iAt {l : List Int} {r : Int} (h : r ∈ l) : ∃ n : Nat, n < nI l ∧ iAt l n = r := by
  obtain ⟨n, hn, rfl⟩ := List.mem_iff_getElem.1 h
  exact ⟨n, by rw [nI_eq]; exact hn, by rw [iAt, List.getD_eq_getElem?_getD, List.getElem?_eq_getElem hn]; rfl⟩
theorem fewG_no2 {ns ts : List ByteArray} {rs : List Rl} (i : Int) (h0 : 0 ≤ i) (hi : i < nR rs) (h : ¬ (nI (rAt rs i.toNat).2 : Int) ≤ 20) : fewG ns ts rs = 0 := if_neg fun hh => h (by have := hh.2.2.2.1 _ (rAt_mem rs i h0 hi); omega)
theorem fewG_no3 {ns ts : List ByteArray} {rs : List Rl} (i : Int) (h0 : 0 ≤ i) (hi : i < nS ns) (h : ¬ ((sAt ns i.toNat).size : Int) ≤ 40) : fewG ns ts rs = 0 := if_neg fun hh => h (by have := hh.2.2.2.2.1 _ (sAt_mem ns i h0 hi); omega)
theorem fewG_no4 {ns ts : List ByteArray} {rs : List Rl} (i : Int) (h0 : 0 ≤ i) (hi : i < nS ts) (h : ¬ ((sAt ts i.toNat).size : Int) ≤ 40) : fewG ns ts rs = 0 := if_neg fun hh => h (by have := hh.2.2.2.2.2 _ (sAt_mem ts i h0 hi); omega)
theorem fewG_ok {ns ts : List ByteArray} {rs : List Rl} (h1 : nS ns ≤ 12) (h2 : nS ts ≤ 12) (h3 : nR rs ≤ 40) (h4 : ∀ n : Nat, n < nR rs → nI (rAt rs n).2 ≤ 20) (h5 : ∀ n : Nat, n < nS ns → (sAt ns n).size ≤ 40) (h6 : ∀ n : Nat, n < nS ts → (sAt ts n).size ≤ 40) : fewG ns ts rs = 1 :=
  if_pos ⟨h1, h2, h3, fun r hr => by obtain ⟨n, hn, rfl⟩ := mem_rAt hr; exact h4 n hn, fun r hr => by obtain ⟨n, hn, rfl⟩ := mem_sAt hr; exact h5 n hn, fun r hr => by obtain ⟨n, hn, rfl⟩ := mem_sAt hr; exact h6 n hn⟩
theorem pc_Find (l : List ByteArray) (w : ByteArray) (hl : nS l < 4611686018427387904) : PC Try.prog T 40 [.v false [(C.sl (nS l) (sC l))], .v false [vS w]] (ret1 (.st (vI (idxS l w)))) [] := by
  refine pc_of tok Try.func40 rfl (by rfl) ?_
  obtain ⟨j, hj⟩ : ∃ j : J, j = std Try.prog T := ⟨_, rfl⟩
  have hm : Try.prog.follows .mixedOrders = true := by kernel_rfl
  generalize y_sC : @sC = x_sC at *
  generalize y_nS : @nS = x_nS at *
  generalize y_idxS : @idxS = x_idxS at *
  (repeat' first | ((first | with_reducible refine tr_cut (fun h => ?_) (fun h => ?_) | refine aw_condj (by cbv) (fun h => ?_) (fun h => ?_)) <;> (try simp (disch := omega) only [hj, std, cmpI, cmpB, satB, Bool.not_eq_true, Bool.not_eq_false, decide_eq_true_eq, decide_eq_false_iff_not, beq_iff_eq, bne_iff_ne, bne_eq_false_iff_eq, beq_eq_false_iff_ne, ne_eq, reduceCtorEq, not_true_eq_false, not_false_eq_true, pl0, if_true, cmpS_eq, cmpS_neq, Bool.not_eq_eq_eq_not, Bool.not_true, Bool.not_false, Bool.not_eq_true', add64, sub64] at h) <;> (try (exfalso; omega))) | (with_reducible refine tr_alt (fun h => ?_) ?_ <;> (try (exfalso; omega))) | (with_reducible refine tr_ob ?_ ?_) | (with_reducible refine tr_done ?_) | (refine aw_tr hj tok book0 (by cbv) ?_) | (refine aw_seq fun K hK => ?_) | (refine aw_tr1 hj tok book0 (by cbv) ?_) | (refine aw_skip ?_) | (refine aw_block ?_) | (refine aw_exit ?_) | (refine aw_ret ⟨.inr rfl, ret_okj hj (by cbv) ?_ ?_⟩) | (refine aw_ret ?_) | (with_reducible refine th_n ?_) | (with_reducible refine th_r ?_) | (with_reducible refine th_x ?_) | (with_reducible refine blk_n ?_) | (with_reducible refine blk_r ?_) | (with_reducible refine blk_x ?_) | (with_reducible refine blk_y rfl ?_) | (refine ⟨.inr rfl, ret_okj hj (by cbv) ?_ ?_⟩) | (refine ⟨.inl rfl, ret_okj hj (by cbv) ?_ ?_⟩) | ((with_reducible refine ⟨_, by cbv, ?_, ?_⟩)) | (with_reducible apply_assumption -symm -exfalso only [*]))
  all_goals ((try subst y_sC); (try subst y_nS); (try subst y_idxS))
  refine aw_lpj hj [(0, .keep), (1, .keep), (5, .keep)] [] (fun (i : Int) => stOf 19 [(0, .one (.c ((C.sl (nS l) (sC l))))), (1, .one (.c (vS w))), (5, .one (.c (vI i)))] []) (fun (i : Int) => nS l - i.toNat) (fun (i : Int) => 0 ≤ i ∧ i ≤ nS l ∧ idxS l w = idxGo w (l.drop i.toNat) i) (0) (by generalize @sC = x_sC; generalize @nS = x_nS; generalize @idxS = x_idxS; cbv) ?_ (fun i hI => ?_)
  · exact ⟨by omega, by omega, rfl⟩
  obtain ⟨i1, i2, i3⟩ := hI
  generalize y_sC : @sC = x_sC at *
  generalize y_nS : @nS = x_nS at *
  generalize y_idxS : @idxS = x_idxS at *
  (repeat' first | ((first | with_reducible refine tr_cut (fun h => ?_) (fun h => ?_) | refine aw_condj (by cbv) (fun h => ?_) (fun h => ?_)) <;> (try simp (disch := omega) only [hj, std, cmpI, cmpB, satB, Bool.not_eq_true, Bool.not_eq_false, decide_eq_true_eq, decide_eq_false_iff_not, beq_iff_eq, bne_iff_ne, bne_eq_false_iff_eq, beq_eq_false_iff_ne, ne_eq, reduceCtorEq, not_true_eq_false, not_false_eq_true, pl0, if_true, cmpS_eq, cmpS_neq, Bool.not_eq_eq_eq_not, Bool.not_true, Bool.not_false, Bool.not_eq_true', gs_sC, add64, sub64] at h) <;> (try (exfalso; omega))) | (with_reducible refine tr_alt (fun h => ?_) ?_ <;> (try (exfalso; omega))) | (with_reducible refine tr_ob ?_ ?_) | (with_reducible refine tr_done ?_) | (refine aw_tr hj tok book0 (by cbv) ?_) | (refine aw_seq fun K hK => ?_) | (refine aw_tr1 hj tok book0 (by cbv) ?_) | (refine aw_skip ?_) | (refine aw_block ?_) | (refine aw_exit ?_) | (refine aw_ret ⟨.inr rfl, ret_okj hj (by cbv) ?_ ?_⟩) | (refine aw_ret ?_) | (with_reducible refine th_n ?_) | (with_reducible refine th_r ?_) | (with_reducible refine th_x ?_) | (with_reducible refine blk_n ?_) | (with_reducible refine blk_r ?_) | (with_reducible refine blk_x ?_) | (with_reducible refine blk_y rfl ?_) | (refine ⟨.inr rfl, ret_okj hj (by cbv) ?_ ?_⟩) | (refine ⟨.inl rfl, ret_okj hj (by cbv) ?_ ?_⟩) | ((with_reducible refine ⟨_, by cbv, ?_, ?_⟩)) | (with_reducible apply_assumption -symm -exfalso only [*]))
  all_goals ((try subst y_sC); (try subst y_nS); (try subst y_idxS))
  all_goals (have nl := nS_eq l)
  all_goals (try have q := ‹gs (cellAt (sC l) _) = w›)
  all_goals (try have q := ‹¬ gs (cellAt (sC l) _) = w›)
  all_goals (try rw [gs_sC] at q)
  all_goals (try (repeat' first | with_reducible exact obl0 | with_reducible refine obl1 ?_ ?_))
  all_goals (try first | with_reducible exact True.intro | ((first | refine ob_le hj ?_ | refine ob_lei hj ?_ | refine ob_inb hj ?_ | refine ob_pos hj ?_ | refine ob_ne0 hj ?_ | refine ob_eqb hj ?_); (first | rfl | first | omega | (simp only [hj, std]; split <;> omega) | (simp (disch := omega) only [hj, std, cmpI, cmpB, satB, add64, sub64, ite0, pl0, pl2, pl3, sb0, if_true, if_false, eq_self, sC_len] <;> omega) | (simp (disch := omega) [hj, std, cmpI, cmpB, satB, add64, sub64, ite0, pl0, pl2, pl3, sb0, if_true, if_false, eq_self, sC_len] <;> omega))) | ((refine ob_ok hj ?_; simp only [hj, std, ite0]; exact ok_sC (by omega))) | ((refine r1i ?_; rw [i3, drop_fin l i (by assumption)]; rfl)) | ((refine r1i ?_; rw [i3, drop_step l i i1 (by assumption), idxGo, if_pos q.symm])) | ((simp (disch := omega) only [hj, std, add64]; first | omega | (refine ⟨by omega, by omega, ?_⟩; rw [i3, drop_step l i i1 (by assumption), idxGo, if_neg (fun e => q e.symm)]))))
theorem pc_SameRight (l m : List Int) (hl : nI l < 4611686018427387904) (hm2 : nI m < 4611686018427387904) : PC Try.prog T 46 [.v false [(C.sl (nI l) (iC l))], .v false [(C.sl (nI m) (iC m))]] (ret1 (.st (vB (sameI l m)))) [] := by
  refine pc_of tok Try.func46 rfl (by rfl) ?_
  obtain ⟨j, hj⟩ : ∃ j : J, j = std Try.prog T := ⟨_, rfl⟩
  have hm : Try.prog.follows .mixedOrders = true := by kernel_rfl
  generalize y_sameI : @sameI = x_sameI at *
  generalize y_iC : @iC = x_iC at *
  generalize y_nI : @nI = x_nI at *
  (repeat' first | ((first | with_reducible refine tr_cut (fun h => ?_) (fun h => ?_) | refine aw_condj (by cbv) (fun h => ?_) (fun h => ?_)) <;> (try simp (disch := omega) only [hj, std, cmpI, cmpB, satB, Bool.not_eq_true, Bool.not_eq_false, decide_eq_true_eq, decide_eq_false_iff_not, beq_iff_eq, bne_iff_ne, bne_eq_false_iff_eq, beq_eq_false_iff_ne, ne_eq, reduceCtorEq, not_true_eq_false, not_false_eq_true, pl0, if_true, cmpS_eq, cmpS_neq, Bool.not_eq_eq_eq_not, Bool.not_true, Bool.not_false, Bool.not_eq_true', add64, sub64] at h) <;> (try (exfalso; omega))) | (with_reducible refine tr_alt (fun h => ?_) ?_ <;> (try (exfalso; omega))) | (with_reducible refine tr_ob ?_ ?_) | (with_reducible refine tr_done ?_) | (refine aw_tr hj tok book0 (by cbv) ?_) | (refine aw_seq fun K hK => ?_) | (refine aw_tr1 hj tok book0 (by cbv) ?_) | (refine aw_skip ?_) | (refine aw_block ?_) | (refine aw_exit ?_) | (refine aw_ret ⟨.inr rfl, ret_okj hj (by cbv) ?_ ?_⟩) | (refine aw_ret ?_) | (with_reducible refine th_n ?_) | (with_reducible refine th_r ?_) | (with_reducible refine th_x ?_) | (with_reducible refine blk_n ?_) | (with_reducible refine blk_r ?_) | (with_reducible refine blk_x ?_) | (with_reducible refine blk_y rfl ?_) | (refine ⟨.inr rfl, ret_okj hj (by cbv) ?_ ?_⟩) | (refine ⟨.inl rfl, ret_okj hj (by cbv) ?_ ?_⟩) | ((with_reducible refine ⟨_, by cbv, ?_, ?_⟩)) | (with_reducible apply_assumption -symm -exfalso only [*]))
  all_goals ((try subst y_sameI); (try subst y_iC); (try subst y_nI))
  all_goals (try (repeat' first | with_reducible exact obl0 | with_reducible refine obl1 ?_ ?_))
  all_goals (try first | with_reducible exact True.intro | ((first | refine ob_le hj ?_ | refine ob_lei hj ?_ | refine ob_inb hj ?_ | refine ob_pos hj ?_ | refine ob_ne0 hj ?_ | refine ob_eqb hj ?_); (first | rfl | first | omega | (simp only [hj, std]; split <;> omega) | (simp (disch := omega) only [hj, std, cmpI, cmpB, satB, add64, sub64, ite0, pl0, pl2, pl3, sb0, if_true, if_false, eq_self] <;> omega) | (simp (disch := omega) [hj, std, cmpI, cmpB, satB, add64, sub64, ite0, pl0, pl2, pl3, sb0, if_true, if_false, eq_self] <;> omega))) | ((refine r1b ?_; exact sameI_no (.inl (by omega)))))
  refine aw_lpj hj [(0, .keep), (1, .keep), (5, .keep)] [] (fun (i : Int) => stOf 26 [(0, .one (.c ((C.sl (nI l) (iC l))))), (1, .one (.c ((C.sl (nI m) (iC m))))), (5, .one (.c (vI i)))] []) (fun (i : Int) => nI l - i.toNat) (fun (i : Int) => 0 ≤ i ∧ i ≤ nI l ∧ ∀ n : Nat, (n : Int) < i → iAt l n = iAt m n) (0) (by generalize @sameI = x_sameI; generalize @iC = x_iC; generalize @nI = x_nI; cbv) ?_ (fun i hI => ?_)
  · exact ⟨by omega, by omega, fun n h => by omega⟩
  obtain ⟨i1, i2, i3⟩ := hI
  generalize y_sameI : @sameI = x_sameI at *
  generalize y_iC : @iC = x_iC at *
  generalize y_nI : @nI = x_nI at *
  (repeat' first | ((first | with_reducible refine tr_cut (fun h => ?_) (fun h => ?_) | refine aw_condj (by cbv) (fun h => ?_) (fun h => ?_)) <;> (try simp (disch := omega) only [hj, std, cmpI, cmpB, satB, Bool.not_eq_true, Bool.not_eq_false, decide_eq_true_eq, decide_eq_false_iff_not, beq_iff_eq, bne_iff_ne, bne_eq_false_iff_eq, beq_eq_false_iff_ne, ne_eq, reduceCtorEq, not_true_eq_false, not_false_eq_true, pl0, if_true, cmpS_eq, cmpS_neq, Bool.not_eq_eq_eq_not, Bool.not_true, Bool.not_false, Bool.not_eq_true', gi_iC, add64, sub64] at h) <;> (try (exfalso; omega))) | (with_reducible refine tr_alt (fun h => ?_) ?_ <;> (try (exfalso; omega))) | (with_reducible refine tr_ob ?_ ?_) | (with_reducible refine tr_done ?_) | (refine aw_dr1 (id := 6) hj tok hm book0 true [(0, false), (1, false), (2, false), (3, false), (4, false), (5, true), (6, true), (7, true), (8, true)] (by kernel_rfl) (by cbv) ?_) | (refine aw_dr (id := 6) hj tok hm book0 true [(0, false), (1, false), (2, false), (3, false), (4, false), (5, true), (6, true), (7, true), (8, true)] (by kernel_rfl) (by cbv) ?_) | (refine aw_tr hj tok book0 (by cbv) ?_) | (refine aw_seq fun K hK => ?_) | (refine aw_tr1 hj tok book0 (by cbv) ?_) | (refine aw_skip ?_) | (refine aw_block ?_) | (refine aw_exit ?_) | (refine aw_ret ⟨.inr rfl, ret_okj hj (by cbv) ?_ ?_⟩) | (refine aw_ret ?_) | (with_reducible refine th_n ?_) | (with_reducible refine th_r ?_) | (with_reducible refine th_x ?_) | (with_reducible refine blk_n ?_) | (with_reducible refine blk_r ?_) | (with_reducible refine blk_x ?_) | (with_reducible refine blk_y rfl ?_) | (refine ⟨.inr rfl, ret_okj hj (by cbv) ?_ ?_⟩) | (refine ⟨.inl rfl, ret_okj hj (by cbv) ?_ ?_⟩) | ((with_reducible refine ⟨_, by cbv, ?_, ?_⟩)) | (with_reducible apply_assumption -symm -exfalso only [*]))
  all_goals ((try subst y_sameI); (try subst y_iC); (try subst y_nI))
  all_goals (have nl := nI_eq l; have nm := nI_eq m)
  all_goals (try have q := ‹gi (cellAt (iC l) _) = _›)
  all_goals (try have q := ‹¬ gi (cellAt (iC l) _) = _›)
  all_goals (try rw [gi_iC, gi_iC] at q)
  all_goals (try (repeat' first | with_reducible exact obl0 | with_reducible refine obl1 ?_ ?_))
  all_goals (try first | with_reducible exact True.intro | ((first | refine ob_le hj ?_ | refine ob_lei hj ?_ | refine ob_inb hj ?_ | refine ob_pos hj ?_ | refine ob_ne0 hj ?_ | refine ob_eqb hj ?_); (first | rfl | first | omega | (simp only [hj, std]; split <;> omega) | (simp (disch := omega) only [hj, std, cmpI, cmpB, satB, add64, sub64, ite0, pl0, pl2, pl3, sb0, if_true, if_false, eq_self, iC_len] <;> omega) | (simp (disch := omega) [hj, std, cmpI, cmpB, satB, add64, sub64, ite0, pl0, pl2, pl3, sb0, if_true, if_false, eq_self, iC_len] <;> omega))) | ((refine ob_ok hj ?_; simp only [hj, std, ite0]; exact ok_iC (by omega))) | ((refine r1b ?_; exact sameI_no (.inr ⟨_, q⟩))) | ((refine r1b ?_; exact sameI_yes (by omega) fun n hn => i3 n (by omega))) | ((simp (disch := omega) only [hj, std, add64]; first | omega | (refine ⟨by omega, by omega, fun n hn => ?_⟩; by_cases e : (n : Int) < i; exact i3 n e; obtain rfl : n = i.toNat := (by omega); exact q))))
theorem pc_Few (ns ts : List ByteArray) (rs : List Rl) (h1 : nS ns < 4611686018427387904) (h2 : nS ts < 4611686018427387904) (h3 : nR rs < 2305843009213693952) (h4 : ∀ r ∈ rs, nI r.2 < 4611686018427387904) (h5 : ∀ s ∈ ns, s.size < 4611686018427387904) (h6 : ∀ s ∈ ts, s.size < 4611686018427387904) :
    PC Try.prog T 17 [.v true [(C.sl (nS ns) (sC ns)), (C.sl (nS ts) (sC ts)), (C.sl (nR rs) (rC rs))]] (ret1 (.st (vI (fewG ns ts rs)))) [] := by
  refine pc_of tok Try.func17 rfl (by rfl) ?_
  obtain ⟨j, hj⟩ : ∃ j : J, j = std Try.prog T := ⟨_, rfl⟩
  have hm : Try.prog.follows .mixedOrders = true := by kernel_rfl
  have nn := nS_eq ns; have nt := nS_eq ts; have nr := nR_eq rs
  generalize y_rC : @rC = x_rC at *
  generalize y_nR : @nR = x_nR at *
  generalize y_fewG : @fewG = x_fewG at *
  generalize y_sC : @sC = x_sC at *
  generalize y_nS : @nS = x_nS at *
  generalize y_nI : @nI = x_nI at *
  (repeat' first | ((first | with_reducible refine tr_cut (fun h => ?_) (fun h => ?_) | refine aw_condj (by cbv) (fun h => ?_) (fun h => ?_)) <;> (try simp (disch := omega) only [hj, std, cmpI, cmpB, satB, Bool.not_eq_true, Bool.not_eq_false, decide_eq_true_eq, decide_eq_false_iff_not, beq_iff_eq, bne_iff_ne, bne_eq_false_iff_eq, beq_eq_false_iff_ne, ne_eq, reduceCtorEq, not_true_eq_false, not_false_eq_true, pl0, if_true, cmpS_eq, cmpS_neq, Bool.not_eq_eq_eq_not, Bool.not_true, Bool.not_false, Bool.not_eq_true', add64, sub64] at h) <;> (try (exfalso; omega))) | (with_reducible refine tr_alt (fun h => ?_) ?_ <;> (try (exfalso; omega))) | (with_reducible refine tr_ob ?_ ?_) | (with_reducible refine tr_done ?_) | (refine aw_tr hj tok book0 (by cbv) ?_) | (refine aw_seq fun K hK => ?_) | (refine aw_tr1 hj tok book0 (by cbv) ?_) | (refine aw_skip ?_) | (refine aw_block ?_) | (refine aw_exit ?_) | (refine aw_ret ⟨.inr rfl, ret_okj hj (by cbv) ?_ ?_⟩) | (refine aw_ret ?_) | (with_reducible refine th_n ?_) | (with_reducible refine th_r ?_) | (with_reducible refine th_x ?_) | (with_reducible refine blk_n ?_) | (with_reducible refine blk_r ?_) | (with_reducible refine blk_x ?_) | (with_reducible refine blk_y rfl ?_) | (refine ⟨.inr rfl, ret_okj hj (by cbv) ?_ ?_⟩) | (refine ⟨.inl rfl, ret_okj hj (by cbv) ?_ ?_⟩) | ((with_reducible refine ⟨_, by cbv, ?_, ?_⟩)) | (with_reducible apply_assumption -symm -exfalso only [*]))
  all_goals ((try subst y_rC); (try subst y_nR); (try subst y_fewG); (try subst y_sC); (try subst y_nS); (try subst y_nI))
  all_goals (try (repeat' first | with_reducible exact obl0 | with_reducible refine obl1 ?_ ?_))
  all_goals (try first | with_reducible exact True.intro | ((first | refine ob_le hj ?_ | refine ob_lei hj ?_ | refine ob_inb hj ?_ | refine ob_pos hj ?_ | refine ob_ne0 hj ?_ | refine ob_eqb hj ?_); (first | rfl | first | omega | (simp only [hj, std]; split <;> omega) | (simp (disch := omega) only [hj, std, cmpI, cmpB, satB, add64, sub64, ite0, pl0, pl2, pl3, sb0, if_true, if_false, eq_self] <;> omega) | (simp (disch := omega) [hj, std, cmpI, cmpB, satB, add64, sub64, ite0, pl0, pl2, pl3, sb0, if_true, if_false, eq_self] <;> omega))) | ((refine r1i ?_; exact fewG_no1 (by omega))))
  refine aw_lpj hj [(1, .keep), (3, .keep)] [1] (fun (i : Int) => stOf 65 [(1, .one (.ptr 1 0)), (3, .one (.c (vI i)))] [(1, .box [.st ((C.sl (nS ns) (sC ns))), .st ((C.sl (nS ts) (sC ts))), .st ((C.sl (nR rs) (rC rs)))])]) (fun (i : Int) => nR rs - i.toNat) (fun (i : Int) => 0 ≤ i ∧ i ≤ nR rs ∧ ∀ n : Nat, (n : Int) < i → nI (rAt rs n).2 ≤ 20) (0) (by generalize @rC = x_rC; generalize @nR = x_nR; generalize @fewG = x_fewG; generalize @sC = x_sC; generalize @nS = x_nS; generalize @nI = x_nI; cbv) ?_ (fun i hI => ?_)
  · exact ⟨by omega, by omega, fun n h => by omega⟩
  obtain ⟨i1, i2, i3⟩ := hI
  generalize y_rC : @rC = x_rC at *
  generalize y_nR : @nR = x_nR at *
  generalize y_fewG : @fewG = x_fewG at *
  generalize y_sC : @sC = x_sC at *
  generalize y_nS : @nS = x_nS at *
  generalize y_nI : @nI = x_nI at *
  (repeat' first | ((first | with_reducible refine tr_cut (fun h => ?_) (fun h => ?_) | refine aw_condj (by cbv) (fun h => ?_) (fun h => ?_)) <;> (try simp (disch := omega) only [hj, std, cmpI, cmpB, satB, Bool.not_eq_true, Bool.not_eq_false, decide_eq_true_eq, decide_eq_false_iff_not, beq_iff_eq, bne_iff_ne, bne_eq_false_iff_eq, beq_eq_false_iff_ne, ne_eq, reduceCtorEq, not_true_eq_false, not_false_eq_true, pl0, if_true, cmpS_eq, cmpS_neq, Bool.not_eq_eq_eq_not, Bool.not_true, Bool.not_false, Bool.not_eq_true', gn_rC, add64, sub64] at h) <;> (try (exfalso; omega))) | (with_reducible refine tr_alt (fun h => ?_) ?_ <;> (try (exfalso; omega))) | (with_reducible refine tr_ob ?_ ?_) | (with_reducible refine tr_done ?_) | (refine aw_tr hj tok book0 (by cbv) ?_) | (refine aw_seq fun K hK => ?_) | (refine aw_tr1 hj tok book0 (by cbv) ?_) | (refine aw_skip ?_) | (refine aw_block ?_) | (refine aw_exit ?_) | (refine aw_ret ⟨.inr rfl, ret_okj hj (by cbv) ?_ ?_⟩) | (refine aw_ret ?_) | (with_reducible refine th_n ?_) | (with_reducible refine th_r ?_) | (with_reducible refine th_x ?_) | (with_reducible refine blk_n ?_) | (with_reducible refine blk_r ?_) | (with_reducible refine blk_x ?_) | (with_reducible refine blk_y rfl ?_) | (refine ⟨.inr rfl, ret_okj hj (by cbv) ?_ ?_⟩) | (refine ⟨.inl rfl, ret_okj hj (by cbv) ?_ ?_⟩) | ((with_reducible refine ⟨_, by cbv, ?_, ?_⟩)) | (with_reducible apply_assumption -symm -exfalso only [*]))
  all_goals ((try subst y_rC); (try subst y_nR); (try subst y_fewG); (try subst y_sC); (try subst y_nS); (try subst y_nI))
  all_goals (try have q := ‹(gn (cellAt (rC rs) _) : Int) > 20›)
  all_goals (try have q := ‹¬ (gn (cellAt (rC rs) _) : Int) > 20›)
  all_goals (try simp only [ite0, gn_rC] at q)
  all_goals (try (repeat' first | with_reducible exact obl0 | with_reducible refine obl1 ?_ ?_))
  all_goals (try first | with_reducible exact True.intro | ((first | refine ob_le hj ?_ | refine ob_lei hj ?_ | refine ob_inb hj ?_ | refine ob_pos hj ?_ | refine ob_ne0 hj ?_ | refine ob_eqb hj ?_); (first | rfl | first | omega | (simp only [hj, std]; split <;> omega) | (simp (disch := omega) only [hj, std, cmpI, cmpB, satB, add64, sub64, ite0, pl0, pl2, pl3, sb0, if_true, if_false, eq_self, rC_len] <;> omega) | (simp (disch := omega) [hj, std, cmpI, cmpB, satB, add64, sub64, ite0, pl0, pl2, pl3, sb0, if_true, if_false, eq_self, rC_len] <;> omega))) | ((refine ob_ok hj ?_; simp only [hj, std, ite0]; exact ok_rC1 (by omega))) | ((refine r1i ?_; exact fewG_no2 i i1 (by assumption) (by omega))) | ((simp (disch := omega) only [hj, std, add64]; first | omega | (refine ⟨by omega, by omega, fun n hn => ?_⟩; by_cases e : (n : Int) < i; exact i3 n e; obtain rfl : n = i.toNat := (by omega); omega))))
  refine aw_lpj hj [(1, .keep), (4, .keep)] [1] (fun (k : Int) => stOf 65 [(1, .one (.ptr 1 0)), (4, .one (.c (vI k)))] [(1, .box [.st ((C.sl (nS ns) (sC ns))), .st ((C.sl (nS ts) (sC ts))), .st ((C.sl (nR rs) (rC rs)))])]) (fun (k : Int) => nS ns - k.toNat) (fun (k : Int) => 0 ≤ k ∧ k ≤ nS ns ∧ ∀ n : Nat, (n : Int) < k → (sAt ns n).size ≤ 40) (0) (by generalize @rC = x_rC; generalize @nR = x_nR; generalize @fewG = x_fewG; generalize @sC = x_sC; generalize @nS = x_nS; generalize @nI = x_nI; cbv) ?_ (fun k hI => ?_)
  · exact ⟨by omega, by omega, fun n h => by omega⟩
  obtain ⟨k1, k2, k3⟩ := hI
  generalize y_rC : @rC = x_rC at *
  generalize y_nR : @nR = x_nR at *
  generalize y_fewG : @fewG = x_fewG at *
  generalize y_sC : @sC = x_sC at *
  generalize y_nS : @nS = x_nS at *
  generalize y_nI : @nI = x_nI at *
  (repeat' first | ((first | with_reducible refine tr_cut (fun h => ?_) (fun h => ?_) | refine aw_condj (by cbv) (fun h => ?_) (fun h => ?_)) <;> (try simp (disch := omega) only [hj, std, cmpI, cmpB, satB, Bool.not_eq_true, Bool.not_eq_false, decide_eq_true_eq, decide_eq_false_iff_not, beq_iff_eq, bne_iff_ne, bne_eq_false_iff_eq, beq_eq_false_iff_ne, ne_eq, reduceCtorEq, not_true_eq_false, not_false_eq_true, pl0, if_true, cmpS_eq, cmpS_neq, Bool.not_eq_eq_eq_not, Bool.not_true, Bool.not_false, Bool.not_eq_true', gs_sC, add64, sub64] at h) <;> (try (exfalso; omega))) | (with_reducible refine tr_alt (fun h => ?_) ?_ <;> (try (exfalso; omega))) | (with_reducible refine tr_ob ?_ ?_) | (with_reducible refine tr_done ?_) | (refine aw_tr hj tok book0 (by cbv) ?_) | (refine aw_seq fun K hK => ?_) | (refine aw_tr1 hj tok book0 (by cbv) ?_) | (refine aw_skip ?_) | (refine aw_block ?_) | (refine aw_exit ?_) | (refine aw_ret ⟨.inr rfl, ret_okj hj (by cbv) ?_ ?_⟩) | (refine aw_ret ?_) | (with_reducible refine th_n ?_) | (with_reducible refine th_r ?_) | (with_reducible refine th_x ?_) | (with_reducible refine blk_n ?_) | (with_reducible refine blk_r ?_) | (with_reducible refine blk_x ?_) | (with_reducible refine blk_y rfl ?_) | (refine ⟨.inr rfl, ret_okj hj (by cbv) ?_ ?_⟩) | (refine ⟨.inl rfl, ret_okj hj (by cbv) ?_ ?_⟩) | ((with_reducible refine ⟨_, by cbv, ?_, ?_⟩)) | (with_reducible apply_assumption -symm -exfalso only [*]))
  all_goals ((try subst y_rC); (try subst y_nR); (try subst y_fewG); (try subst y_sC); (try subst y_nS); (try subst y_nI))
  all_goals (try have q := ‹((gs (cellAt (sC ns) _)).size : Int) > 40›)
  all_goals (try have q := ‹¬ ((gs (cellAt (sC ns) _)).size : Int) > 40›)
  all_goals (try simp only [ite0, gs_sC] at q)
  all_goals (try (repeat' first | with_reducible exact obl0 | with_reducible refine obl1 ?_ ?_))
  all_goals (try first | with_reducible exact True.intro | ((first | refine ob_le hj ?_ | refine ob_lei hj ?_ | refine ob_inb hj ?_ | refine ob_pos hj ?_ | refine ob_ne0 hj ?_ | refine ob_eqb hj ?_); (first | rfl | first | omega | (simp only [hj, std]; split <;> omega) | (simp (disch := omega) only [hj, std, cmpI, cmpB, satB, add64, sub64, ite0, pl0, pl2, pl3, sb0, if_true, if_false, eq_self, sC_len] <;> omega) | (simp (disch := omega) [hj, std, cmpI, cmpB, satB, add64, sub64, ite0, pl0, pl2, pl3, sb0, if_true, if_false, eq_self, sC_len] <;> omega))) | ((refine ob_ok hj ?_; simp only [hj, std, ite0]; exact ok_sC (by omega))) | ((refine r1i ?_; exact fewG_no3 k k1 (by assumption) (by omega))) | ((simp (disch := omega) only [hj, std, add64]; first | omega | (refine ⟨by omega, by omega, fun n hn => ?_⟩; by_cases e : (n : Int) < k; exact k3 n e; obtain rfl : n = k.toNat := (by omega); omega))))
  refine aw_lpj hj [(1, .keep), (5, .keep)] [1] (fun (m : Int) => stOf 65 [(1, .one (.ptr 1 0)), (5, .one (.c (vI m)))] [(1, .box [.st ((C.sl (nS ns) (sC ns))), .st ((C.sl (nS ts) (sC ts))), .st ((C.sl (nR rs) (rC rs)))])]) (fun (m : Int) => nS ts - m.toNat) (fun (m : Int) => 0 ≤ m ∧ m ≤ nS ts ∧ ∀ n : Nat, (n : Int) < m → (sAt ts n).size ≤ 40) (0) (by generalize @rC = x_rC; generalize @nR = x_nR; generalize @fewG = x_fewG; generalize @sC = x_sC; generalize @nS = x_nS; generalize @nI = x_nI; cbv) ?_ (fun m hI => ?_)
  · exact ⟨by omega, by omega, fun n h => by omega⟩
  obtain ⟨m1, m2, m3⟩ := hI
  generalize y_rC : @rC = x_rC at *
  generalize y_nR : @nR = x_nR at *
  generalize y_fewG : @fewG = x_fewG at *
  generalize y_sC : @sC = x_sC at *
  generalize y_nS : @nS = x_nS at *
  generalize y_nI : @nI = x_nI at *
  (repeat' first | ((first | with_reducible refine tr_cut (fun h => ?_) (fun h => ?_) | refine aw_condj (by cbv) (fun h => ?_) (fun h => ?_)) <;> (try simp (disch := omega) only [hj, std, cmpI, cmpB, satB, Bool.not_eq_true, Bool.not_eq_false, decide_eq_true_eq, decide_eq_false_iff_not, beq_iff_eq, bne_iff_ne, bne_eq_false_iff_eq, beq_eq_false_iff_ne, ne_eq, reduceCtorEq, not_true_eq_false, not_false_eq_true, pl0, if_true, cmpS_eq, cmpS_neq, Bool.not_eq_eq_eq_not, Bool.not_true, Bool.not_false, Bool.not_eq_true', gs_sC, add64, sub64] at h) <;> (try (exfalso; omega))) | (with_reducible refine tr_alt (fun h => ?_) ?_ <;> (try (exfalso; omega))) | (with_reducible refine tr_ob ?_ ?_) | (with_reducible refine tr_done ?_) | (refine aw_tr hj tok book0 (by cbv) ?_) | (refine aw_seq fun K hK => ?_) | (refine aw_tr1 hj tok book0 (by cbv) ?_) | (refine aw_skip ?_) | (refine aw_block ?_) | (refine aw_exit ?_) | (refine aw_ret ⟨.inr rfl, ret_okj hj (by cbv) ?_ ?_⟩) | (refine aw_ret ?_) | (with_reducible refine th_n ?_) | (with_reducible refine th_r ?_) | (with_reducible refine th_x ?_) | (with_reducible refine blk_n ?_) | (with_reducible refine blk_r ?_) | (with_reducible refine blk_x ?_) | (with_reducible refine blk_y rfl ?_) | (refine ⟨.inr rfl, ret_okj hj (by cbv) ?_ ?_⟩) | (refine ⟨.inl rfl, ret_okj hj (by cbv) ?_ ?_⟩) | ((with_reducible refine ⟨_, by cbv, ?_, ?_⟩)) | (with_reducible apply_assumption -symm -exfalso only [*]))
  all_goals ((try subst y_rC); (try subst y_nR); (try subst y_fewG); (try subst y_sC); (try subst y_nS); (try subst y_nI))
  all_goals (try have q := ‹((gs (cellAt (sC ts) _)).size : Int) > 40›)
  all_goals (try have q := ‹¬ ((gs (cellAt (sC ts) _)).size : Int) > 40›)
  all_goals (try simp only [ite0, gs_sC] at q)
  all_goals (try (repeat' first | with_reducible exact obl0 | with_reducible refine obl1 ?_ ?_))
  all_goals (try first | with_reducible exact True.intro | ((first | refine ob_le hj ?_ | refine ob_lei hj ?_ | refine ob_inb hj ?_ | refine ob_pos hj ?_ | refine ob_ne0 hj ?_ | refine ob_eqb hj ?_); (first | rfl | first | omega | (simp only [hj, std]; split <;> omega) | (simp (disch := omega) only [hj, std, cmpI, cmpB, satB, add64, sub64, ite0, pl0, pl2, pl3, sb0, if_true, if_false, eq_self, sC_len] <;> omega) | (simp (disch := omega) [hj, std, cmpI, cmpB, satB, add64, sub64, ite0, pl0, pl2, pl3, sb0, if_true, if_false, eq_self, sC_len] <;> omega))) | ((refine ob_ok hj ?_; simp only [hj, std, ite0]; exact ok_sC (by omega))) | ((refine r1i ?_; exact fewG_no4 m m1 (by assumption) (by omega))) | ((refine r1i ?_; exact fewG_ok (by omega) (by omega) (by omega) (fun n hn => i3 n (by omega)) (fun n hn => k3 n (by omega)) (fun n hn => m3 n (by omega)))) | ((simp (disch := omega) only [hj, std, add64]; first | omega | (refine ⟨by omega, by omega, fun n hn => ?_⟩; by_cases e : (n : Int) < m; exact m3 n e; obtain rfl : n = m.toNat := (by omega); omega))))
end Go.Proofs.Ytgimfjmigoibgaa.A
/- Grammars: rules that are alike; texts that are; a nonterminal's rules. -/
set_option linter.unusedSimpArgs false
set_option linter.unusedVariables false
set_option maxRecDepth 100000
set_option maxHeartbeats 4000000
namespace Go.Proofs.Ytgimfjmigoibgaa.A
open Go
theorem sameI_iff {l m : List Int} : sameI l m = true ↔ l = m := by unfold sameI; simp
theorem sameI_iff_not {l m : List Int} : sameI l m = false ↔ ¬ l = m := by unfold sameI; simp
theorem c_SameR {a b : List Int} {n m : Nat} {cs ds : List C} (h1 : n = nI a) (h2 : cs = iC a) (h3 : m = nI b) (h4 : ds = iC b) (ha : nI a < 4611686018427387904) (hb : nI b < 4611686018427387904) : pc 46 [.v false [.sl n cs], .v false [.sl m ds]] (ret1 (.st (vB (sameI (intsOf cs) (intsOf ds))))) := by
  subst h1; subst h2; subst h3; subst h4
  rw [intsOf_iC, intsOf_iC]
  exact ⟨enters Try.func46 (by kernel_rfl) (by kernel_rfl), pc_SameRight a b ha hb⟩
theorem gnR (l : List Rl) (k : Nat) : gn (cellAt (rC l) (if k * 2 = 0 then 1 else k * 2 + 1)) = nI (rAt l k).2 := by rw [ite0]; exact gn_rC l k
theorem pc_twice14 (l : List Rl) (hl : nR l < 2305843009213693952) (hr : ∀ r ∈ l, nI r.2 < 4611686018427387904) : PC Try.prog T 42 [.v false [(C.sl (nR l) (rC l))]] (ret1 (.st (vB (dupR l)))) [] := by
  refine pc_of tok Try.func42 rfl (by rfl) ?_
  obtain ⟨j, hj⟩ : ∃ j : J, j = std Try.prog T := ⟨_, rfl⟩
  have hm : Try.prog.follows .mixedOrders = true := by kernel_rfl
  have nr := nR_eq l
  generalize y_intsOf : @intsOf = x_intsOf at *
  generalize y_sameI : @sameI = x_sameI at *
  generalize y_rC : @rC = x_rC at *
  generalize y_nR : @nR = x_nR at *
  generalize y_dupR : @dupR = x_dupR at *
  generalize y_nI : @nI = x_nI at *
  (repeat' first | ((first | with_reducible refine tr_cut (fun h => ?_) (fun h => ?_) | refine aw_condj (by cbv) (fun h => ?_) (fun h => ?_)) <;> (try simp (disch := omega) only [hj, std, cmpI, cmpB, satB, Bool.not_eq_true, Bool.not_eq_false, decide_eq_true_eq, decide_eq_false_iff_not, beq_iff_eq, bne_iff_ne, bne_eq_false_iff_eq, beq_eq_false_iff_ne, ne_eq, reduceCtorEq, not_true_eq_false, not_false_eq_true, pl0, if_true, cmpS_eq, cmpS_neq, Bool.not_eq_eq_eq_not, Bool.not_true, Bool.not_false, Bool.not_eq_true', add64, sub64] at h) <;> (try (exfalso; omega))) | (with_reducible refine tr_alt (fun h => ?_) ?_ <;> (try (exfalso; omega))) | (with_reducible refine tr_ob ?_ ?_) | (with_reducible refine tr_done ?_) | (refine aw_tr hj tok (bookGs x_intsOf x_sameI) (by cbv) ?_) | (refine aw_seq fun K hK => ?_) | (refine aw_tr1 hj tok (bookGs x_intsOf x_sameI) (by cbv) ?_) | (refine aw_skip ?_) | (refine aw_block ?_) | (refine aw_exit ?_) | (refine aw_ret ⟨.inr rfl, ret_okj hj (by cbv) ?_ ?_⟩) | (refine aw_ret ?_) | (with_reducible refine th_n ?_) | (with_reducible refine th_r ?_) | (with_reducible refine th_x ?_) | (with_reducible refine blk_n ?_) | (with_reducible refine blk_r ?_) | (with_reducible refine blk_x ?_) | (with_reducible refine blk_y rfl ?_) | (refine ⟨.inr rfl, ret_okj hj (by cbv) ?_ ?_⟩) | (refine ⟨.inl rfl, ret_okj hj (by cbv) ?_ ?_⟩) | ((with_reducible refine ⟨_, by cbv, ?_, ?_⟩)) | (with_reducible apply_assumption -symm -exfalso only [*]))
  all_goals ((try subst y_intsOf); (try subst y_sameI); (try subst y_rC); (try subst y_nR); (try subst y_dupR); (try subst y_nI))
  refine aw_lpj hj [(0, .keep), (3, .keep)] [] (fun (i : Int) => stOf 40 [(0, .one (.c ((C.sl (nR l) (rC l))))), (3, .one (.c (vI i)))] []) (fun (i : Int) => nR l - i.toNat) (fun (i : Int) => 0 ≤ i ∧ i ≤ nR l ∧ ∀ n : Nat, (n : Int) < i → ∀ k : Nat, k < n → rAt l n ≠ rAt l k) (0) (by generalize @intsOf = x_intsOf; generalize @sameI = x_sameI; generalize @rC = x_rC; generalize @nR = x_nR; generalize @dupR = x_dupR; generalize @nI = x_nI; cbv) ?_ (fun i hI => ?_)
  · exact ⟨by omega, by omega, fun n h => by omega⟩
  obtain ⟨i1, i2, i3⟩ := hI
  generalize y_intsOf : @intsOf = x_intsOf at *
  generalize y_sameI : @sameI = x_sameI at *
  generalize y_rC : @rC = x_rC at *
  generalize y_nR : @nR = x_nR at *
  generalize y_dupR : @dupR = x_dupR at *
  generalize y_nI : @nI = x_nI at *
  (repeat' first | ((first | with_reducible refine tr_cut (fun h => ?_) (fun h => ?_) | refine aw_condj (by cbv) (fun h => ?_) (fun h => ?_)) <;> (try simp (disch := omega) only [hj, std, cmpI, cmpB, satB, Bool.not_eq_true, Bool.not_eq_false, decide_eq_true_eq, decide_eq_false_iff_not, beq_iff_eq, bne_iff_ne, bne_eq_false_iff_eq, beq_eq_false_iff_ne, ne_eq, reduceCtorEq, not_true_eq_false, not_false_eq_true, pl0, if_true, cmpS_eq, cmpS_neq, Bool.not_eq_eq_eq_not, Bool.not_true, Bool.not_false, Bool.not_eq_true', add64, sub64] at h) <;> (try (exfalso; omega))) | (with_reducible refine tr_alt (fun h => ?_) ?_ <;> (try (exfalso; omega))) | (with_reducible refine tr_ob ?_ ?_) | (with_reducible refine tr_done ?_) | (refine aw_tr hj tok (bookGs x_intsOf x_sameI) (by cbv) ?_) | (refine aw_seq fun K hK => ?_) | (refine aw_tr1 hj tok (bookGs x_intsOf x_sameI) (by cbv) ?_) | (refine aw_skip ?_) | (refine aw_block ?_) | (refine aw_exit ?_) | (refine aw_ret ⟨.inr rfl, ret_okj hj (by cbv) ?_ ?_⟩) | (refine aw_ret ?_) | (with_reducible refine th_n ?_) | (with_reducible refine th_r ?_) | (with_reducible refine th_x ?_) | (with_reducible refine blk_n ?_) | (with_reducible refine blk_r ?_) | (with_reducible refine blk_x ?_) | (with_reducible refine blk_y rfl ?_) | (refine ⟨.inr rfl, ret_okj hj (by cbv) ?_ ?_⟩) | (refine ⟨.inl rfl, ret_okj hj (by cbv) ?_ ?_⟩) | ((with_reducible refine ⟨_, by cbv, ?_, ?_⟩)) | (with_reducible apply_assumption -symm -exfalso only [*]))
  all_goals ((try subst y_intsOf); (try subst y_sameI); (try subst y_rC); (try subst y_nR); (try subst y_dupR); (try subst y_nI))
  all_goals (try (repeat' first | with_reducible exact obl0 | with_reducible refine obl1 ?_ ?_))
  all_goals (try first | with_reducible exact True.intro | ((first | refine ob_le hj ?_ | refine ob_lei hj ?_ | refine ob_inb hj ?_ | refine ob_pos hj ?_ | refine ob_ne0 hj ?_ | refine ob_eqb hj ?_); (first | rfl | first | omega | (simp only [hj, std]; split <;> omega) | (simp (disch := omega) only [hj, std, cmpI, cmpB, satB, add64, sub64, ite0, pl0, pl2, pl3, sb0, if_true, if_false, eq_self] <;> omega) | (simp (disch := omega) [hj, std, cmpI, cmpB, satB, add64, sub64, ite0, pl0, pl2, pl3, sb0, if_true, if_false, eq_self] <;> omega))) | ((refine r1b ?_; exact dupR_no fun n hn => i3 n (by omega))))
  refine aw_lpj hj [(0, .keep), (3, .keep), (4, .keep)] [] (fun (k : Int) => stOf 40 [(0, .one (.c ((C.sl (nR l) (rC l))))), (3, .one (.c (vI i))), (4, .one (.c (vI k)))] []) (fun (k : Int) => i.toNat - k.toNat) (fun (k : Int) => 0 ≤ k ∧ k ≤ i ∧ ∀ n : Nat, (n : Int) < k → rAt l i.toNat ≠ rAt l n) (0) (by generalize @intsOf = x_intsOf; generalize @sameI = x_sameI; generalize @rC = x_rC; generalize @nR = x_nR; generalize @dupR = x_dupR; generalize @nI = x_nI; cbv) ?_ (fun k hI => ?_)
  · exact ⟨by omega, by omega, fun n h => by omega⟩
  obtain ⟨k1, k2, k3⟩ := hI
  have hil : i < nR l := by assumption
  generalize y_intsOf : @intsOf = x_intsOf at *
  generalize y_sameI : @sameI = x_sameI at *
  generalize y_rC : @rC = x_rC at *
  generalize y_nR : @nR = x_nR at *
  generalize y_dupR : @dupR = x_dupR at *
  generalize y_nI : @nI = x_nI at *
  (repeat' first | ((first | with_reducible refine tr_cut (fun h => ?_) (fun h => ?_) | refine aw_condj (by cbv) (fun h => ?_) (fun h => ?_)) <;> (try simp (disch := omega) only [hj, std, cmpI, cmpB, satB, Bool.not_eq_true, Bool.not_eq_false, decide_eq_true_eq, decide_eq_false_iff_not, beq_iff_eq, bne_iff_ne, bne_eq_false_iff_eq, beq_eq_false_iff_ne, ne_eq, reduceCtorEq, not_true_eq_false, not_false_eq_true, pl0, if_true, cmpS_eq, cmpS_neq, Bool.not_eq_eq_eq_not, Bool.not_true, Bool.not_false, Bool.not_eq_true', ite0, add64, sub64] at h) <;> (try (exfalso; omega))) | (with_reducible refine tr_alt (fun h => ?_) ?_ <;> (try (exfalso; omega))) | (with_reducible refine tr_ob ?_ ?_) | (with_reducible refine tr_done ?_) | (refine aw_dr1 (id := 7) hj tok hm (bookGs x_intsOf x_sameI) true [(0, false), (1, false), (2, false), (3, false), (4, false), (5, false), (6, true), (7, true), (8, true), (9, true), (10, true), (11, true), (12, false), (13, false), (14, false), (15, false), (16, false), (17, false), (18, true), (19, true), (20, true), (21, true), (22, true), (23, true)] (by kernel_rfl) (by cbv) ?_) | (refine aw_dr (id := 7) hj tok hm (bookGs x_intsOf x_sameI) true [(0, false), (1, false), (2, false), (3, false), (4, false), (5, false), (6, true), (7, true), (8, true), (9, true), (10, true), (11, true), (12, false), (13, false), (14, false), (15, false), (16, false), (17, false), (18, true), (19, true), (20, true), (21, true), (22, true), (23, true)] (by kernel_rfl) (by cbv) ?_) | (refine aw_tr hj tok (bookGs x_intsOf x_sameI) (by cbv) ?_) | (refine aw_seq fun K hK => ?_) | (refine aw_tr1 hj tok (bookGs x_intsOf x_sameI) (by cbv) ?_) | (refine aw_skip ?_) | (refine aw_block ?_) | (refine aw_exit ?_) | (refine aw_ret ⟨.inr rfl, ret_okj hj (by cbv) ?_ ?_⟩) | (refine aw_ret ?_) | (with_reducible refine th_n ?_) | (with_reducible refine th_r ?_) | (with_reducible refine th_x ?_) | (with_reducible refine blk_n ?_) | (with_reducible refine blk_r ?_) | (with_reducible refine blk_x ?_) | (with_reducible refine blk_y rfl ?_) | (refine ⟨.inr rfl, ret_okj hj (by cbv) ?_ ?_⟩) | (refine ⟨.inl rfl, ret_okj hj (by cbv) ?_ ?_⟩) | ((with_reducible refine ⟨_, by cbv, ?_, ?_⟩)) | (with_reducible apply_assumption -symm -exfalso only [*]))
  all_goals ((try subst y_intsOf); (try subst y_sameI); (try subst y_rC); (try subst y_nR); (try subst y_dupR); (try subst y_nI))
  all_goals (try have q := ‹gi (cellAt (rC l) _) = _›)
  all_goals (try have q := ‹¬ gi (cellAt (rC l) _) = _›)
  all_goals (try rw [gi_rC, gi_rC] at q)
  all_goals (try have p := ‹sameI _ _ = true›)
  all_goals (try have p := ‹sameI _ _ = false›)
  all_goals (try simp only [ite0, gcR, gc_rC, intsOf_iC, sameI_iff, sameI_iff_not] at p)
  all_goals (try (repeat' first | with_reducible exact obl0 | with_reducible refine obl1 ?_ ?_))
  all_goals (try first | with_reducible exact True.intro | (refine ob_pc hj ?_; (try rw [hj]); first | exact c_SameR (a := (rAt l i.toNat).2) (b := (rAt l k.toNat).2) (gnR _ _) (gcR _ _) (gnR _ _) (gcR _ _) (hr _ (rAt_mem l i (by omega) (by omega))) (hr _ (rAt_mem l k (by omega) (by omega)))) | (refine ob_pcn hj ?_; (try rw [hj]); first | exact c_SameR (a := (rAt l i.toNat).2) (b := (rAt l k.toNat).2) (gnR _ _) (gcR _ _) (gnR _ _) (gcR _ _) (hr _ (rAt_mem l i (by omega) (by omega))) (hr _ (rAt_mem l k (by omega) (by omega)))) | ((first | refine ob_le hj ?_ | refine ob_lei hj ?_ | refine ob_inb hj ?_ | refine ob_pos hj ?_ | refine ob_ne0 hj ?_ | refine ob_eqb hj ?_); (first | rfl | first | omega | (simp only [hj, std]; split <;> omega) | (simp (disch := omega) only [hj, std, cmpI, cmpB, satB, add64, sub64, ite0, pl0, pl2, pl3, sb0, if_true, if_false, eq_self, rC_len] <;> omega) | (simp (disch := omega) [hj, std, cmpI, cmpB, satB, add64, sub64, ite0, pl0, pl2, pl3, sb0, if_true, if_false, eq_self, rC_len] <;> omega))) | ((refine ob_ok hj ?_; simp only [hj, std, ite0]; first | exact ok_rC1 (by omega) | exact ok_rC0 (by omega))) | ((refine r1b ?_; exact dupR_yes (i := i.toNat) (k := k.toNat) (by omega) (by omega) q p)) | ((simp (disch := omega) only [hj, std, add64]; first | omega | (refine ⟨by omega, by omega, fun n hn => ?_⟩; by_cases e : (n : Int) < k; exact k3 n e; obtain rfl : n = k.toNat := (by omega); intro ee; first | exact q (congrArg Prod.fst ee) | exact p (congrArg Prod.snd ee)) | (refine ⟨by omega, by omega, fun n hn => ?_⟩; by_cases e : (n : Int) < i; exact i3 n e; obtain rfl : n = i.toNat := (by omega); exact fun m hm => k3 m (by omega)))))
end Go.Proofs.Ytgimfjmigoibgaa.A
/- Grammars: texts of which no two are alike; a nonterminal's rules. -/
set_option linter.unusedSimpArgs false
set_option linter.unusedVariables false
set_option maxRecDepth 100000
set_option maxHeartbeats 4000000
namespace Go.Proofs.Ytgimfjmigoibgaa.A
open Go
theorem sAt_get {l : List ByteArray} {n : Nat} (h : n < l.length) : sAt l n = l[n] := by rw [sAt, List.getD_eq_getElem?_getD, List.getElem?_eq_getElem h]; rfl
end Go.Proofs.Ytgimfjmigoibgaa.A
/- Grammars: which may be, by the reference. -/
set_option linter.unusedSimpArgs false
set_option linter.unusedVariables false
set_option maxRecDepth 100000
set_option maxHeartbeats 4000000
namespace Go.Proofs.Ytgimfjmigoibgaa.A
open Go
theorem idxGo_at (w : ByteArray) : ∀ (l : List ByteArray) (i0 : Int) (n : Nat) (hn : n < l.length), l[n] = w → (∀ k (hk : k < n), l[k] ≠ w) → idxGo w l i0 = i0 + n := by
  intro l
  induction l with
  | nil => intro i0 n hn; exact absurd hn (by simp)
  | cons x l ih =>
    intro i0 n hn e h
    unfold idxGo
    cases n with
    | zero => rw [if_pos (by simpa using e.symm)]; simp
    | succ n =>
      rw [if_neg (fun e2 => h 0 (by omega) (by simpa using e2.symm)), ih (i0 + 1) n (by simpa using hn) (by simpa using e) (fun k hk => by simpa using h (k + 1) (by omega))]
      omega
theorem idxGo_le (w : ByteArray) : ∀ (l : List ByteArray) (i0 : Int) (n : Nat) (hn : n < l.length), l[n] = w → idxGo w l i0 ≤ i0 + n := by
  intro l
  induction l with
  | nil => intro i0 n hn; exact absurd hn (by simp)
  | cons x l ih =>
    intro i0 n hn e
    unfold idxGo
    split
    · omega
    · cases n with
      | zero => rename_i h; exact absurd (by simpa using e.symm) h
      | succ n => have := ih (i0 + 1) n (by simpa using hn) (by simpa using e); omega
theorem idx_first {l : List ByteArray} {i : Int} (h0 : 0 ≤ i) (hi : i < nS l) : idxS l (sAt l i.toNat) = i ↔ ∀ k : Nat, k < i.toNat → sAt l k ≠ sAt l i.toNat := by
  have hn := nS_eq l
  have hl : i.toNat < l.length := by omega
  constructor
  · intro h k hk e
    rw [sAt_get (by omega), sAt_get hl] at e
    have := idxGo_le (sAt l i.toNat) l 0 k (by omega) (by rw [sAt_get hl]; exact e)
    unfold idxS at h
    omega
  · intro h
    have := idxGo_at (sAt l i.toNat) l 0 i.toNat hl (sAt_get hl).symm (fun k hk => by have := h k hk; rwa [sAt_get (by omega)] at this)
    unfold idxS; omega
theorem dst_no3 {p : ByteArray → Bool} {l : List ByteArray} {i : Int} (h0 : 0 ≤ i) (hi : i < nS l) (h : ¬ idxS l (sAt l i.toNat) = i) : dstS p l = false :=
  decide_eq_false fun hh => h ((idx_first h0 hi).2 fun k hk e => by
    have hn := nS_eq l
    rw [sAt_get (by omega), sAt_get (by omega)] at e
    exact List.pairwise_iff_getElem.1 hh.2 k i.toNat (by omega) (by omega) hk e)
theorem dst_all {p : ByteArray → Bool} {l : List ByteArray} (h1 : ∀ n : Nat, n < nS l → p (sAt l n) = true) (h2 : ∀ n : Nat, n < nS l → idxS l (sAt l n) = (n : Int)) : dstS p l = true := by
  refine decide_eq_true ⟨fun s hs => by obtain ⟨n, hn, rfl⟩ := mem_sAt hs; exact h1 n hn, List.pairwise_iff_getElem.2 fun k n hk hn hkn e => ?_⟩
  have hl := nS_eq l
  have h3 := (idx_first (l := l) (i := (n : Int)) (by omega) (by omega)).1 (h2 n (by omega)) k (by omega)
  rw [show ((n : Int)).toNat = n by omega, sAt_get hn, sAt_get hk] at h3
  exact h3 e
theorem fit_all {n t : Nat} {x : Int} {l : List Int} (h : 0 ≤ x ∧ x < n ∧ nI l ≤ 64) (h2 : ∀ m : Nat, m < nI l → badI n t (iAt l m) = false) : fitR n t (x, l) = true := by
  rw [fit_yes h, Bool.not_eq_true']
  unfold hasB
  rw [List.any_eq_false]
  intro s hs
  obtain ⟨m, hm, rfl⟩ := mem_iAt hs
  rw [h2 m hm]; decide
theorem fit_no2 {n t : Nat} {r : Rl} {k : Int} (h0 : 0 ≤ k) (hk : k < nI r.2) (h : badI n t (iAt r.2 k.toNat) = true) : fitR n t r = false := by
  unfold fitR hasB
  have : r.2.any (badI n t) = true := List.any_eq_true.2 ⟨_, iAt_mem r.2 k h0 hk, h⟩
  rw [this]; simp
def bookG7 (x_rlsOf : List C → List Rl) (x_dupR : List Rl → Bool) (x_strsOf : List C → List ByteArray) (x_idxS : List ByteArray → ByteArray → Int) (x_nameI : ByteArray → Bool) (x_termI : ByteArray → Bool) : Book := fun f xs => match f, xs with
  | 39, [.v false [.val (.string s)]] => some (ret1 (.st (vB (x_nameI s))))
  | 41, [.v false [.val (.string s)]] => some (ret1 (.st (vB (x_termI s))))
  | 40, [.v false [.sl _ cs], .v false [.val (.string s)]] => some (ret1 (.st (vI (x_idxS (x_strsOf cs) s))))
  | 42, [.v false [.sl _ cs]] => some (ret1 (.st (vB (x_dupR (x_rlsOf cs)))))
  | _, _ => none
theorem c_Find {l : List ByteArray} {w : ByteArray} (hl : nS l < 4611686018427387904) : pc 40 [.v false [(C.sl (nS l) (sC l))], .v false [vS w]] (ret1 (.st (vI (idxS (strsOf (sC l)) w)))) := by
  rw [strsOf_sC]
  exact ⟨enters Try.func40 (by kernel_rfl) (by kernel_rfl), pc_Find l w hl⟩
theorem c_tw14 {rs : List Rl} (h : nR rs ≤ 1000000) (hr : ∀ r ∈ rs, nI r.2 ≤ 1000000) : pc 42 [.v false [(C.sl (nR rs) (rC rs))]] (ret1 (.st (vB (dupR (rlsOf (rC rs)))))) := by
  rw [rlsOf_rC]
  exact ⟨enters Try.func42 (by kernel_rfl) (by kernel_rfl), pc_twice14 rs (by omega) fun r hh => by have := hr r hh; omega⟩
def hasL (rs : List Rl) (i : Int) (k : Int) : Bool := (rs.take k.toNat).any fun r => decide (r.1 = i)
theorem hasL_step {rs : List Rl} {i k : Int} (h0 : 0 ≤ k) (hk : k < nR rs) : hasL rs i (k + 1) = (hasL rs i k || decide ((rAt rs k.toNat).1 = i)) := by
  have hn := nR_eq rs
  have e : (k + 1).toNat = k.toNat + 1 := by omega
  unfold hasL
  rw [e, take_snoc (0, []) (by omega), List.any_append]
  simp
theorem hasL_end {rs : List Rl} {i k : Int} (hk : ¬ k < nR rs) : hasL rs i k = true ↔ ∃ r ∈ rs, r.1 = i := by
  have hn := nR_eq rs
  unfold hasL
  rw [List.take_of_length_le (by omega), List.any_eq_true]
  simp
theorem pc_Valid14 (ns ts : List ByteArray) (rs : List Rl) (hS : Sml ns ts rs) : PC Try.prog T 19 [.v true [(C.sl (nS ns) (sC ns)), (C.sl (nS ts) (sC ts)), (C.sl (nR rs) (rC rs))]] (ret1 (.st (vB (validG ns ts rs)))) [] := by
  have ha := hS.n; have hb := hS.t; have hc := hS.r
  have nn := nS_eq ns; have nt := nS_eq ts; have nr := nR_eq rs
  refine pc_of tok Try.func19 rfl (by rfl) ?_
  obtain ⟨j, hj⟩ : ∃ j : J, j = std Try.prog T := ⟨_, rfl⟩
  have hm : Try.prog.follows .mixedOrders = true := by kernel_rfl
  generalize y_rlsOf : @rlsOf = x_rlsOf at *
  generalize y_dupR : @dupR = x_dupR at *
  generalize y_strsOf : @strsOf = x_strsOf at *
  generalize y_idxS : @idxS = x_idxS at *
  generalize y_nameI : @nameI = x_nameI at *
  generalize y_termI : @termI = x_termI at *
  generalize y_rC : @rC = x_rC at *
  generalize y_nR : @nR = x_nR at *
  generalize y_dstS : @dstS = x_dstS at *
  generalize y_badI : @badI = x_badI at *
  generalize y_fitR : @fitR = x_fitR at *
  generalize y_validG : @validG = x_validG at *
  generalize y_sC : @sC = x_sC at *
  generalize y_iC : @iC = x_iC at *
  generalize y_nS : @nS = x_nS at *
  generalize y_nI : @nI = x_nI at *
  (repeat' first | ((first | with_reducible refine tr_cut (fun h => ?_) (fun h => ?_) | refine aw_condj (by cbv) (fun h => ?_) (fun h => ?_)) <;> (try simp (disch := omega) only [hj, std, cmpI, cmpB, satB, Bool.not_eq_true, Bool.not_eq_false, decide_eq_true_eq, decide_eq_false_iff_not, beq_iff_eq, bne_iff_ne, bne_eq_false_iff_eq, beq_eq_false_iff_ne, ne_eq, reduceCtorEq, not_true_eq_false, not_false_eq_true, pl0, if_true, cmpS_eq, cmpS_neq, Bool.not_eq_eq_eq_not, Bool.not_true, Bool.not_false, Bool.not_eq_true', add64, sub64] at h) <;> (try (exfalso; omega))) | (with_reducible refine tr_alt (fun h => ?_) ?_ <;> (try (exfalso; omega))) | (with_reducible refine tr_ob ?_ ?_) | (with_reducible refine tr_done ?_) | (refine aw_tr hj tok (bookG7 x_rlsOf x_dupR x_strsOf x_idxS x_nameI x_termI) (by cbv) ?_) | (refine aw_seq fun K hK => ?_) | (refine aw_tr1 hj tok (bookG7 x_rlsOf x_dupR x_strsOf x_idxS x_nameI x_termI) (by cbv) ?_) | (refine aw_skip ?_) | (refine aw_block ?_) | (refine aw_exit ?_) | (refine aw_ret ⟨.inr rfl, ret_okj hj (by cbv) ?_ ?_⟩) | (refine aw_ret ?_) | (with_reducible refine th_n ?_) | (with_reducible refine th_r ?_) | (with_reducible refine th_x ?_) | (with_reducible refine blk_n ?_) | (with_reducible refine blk_r ?_) | (with_reducible refine blk_x ?_) | (with_reducible refine blk_y rfl ?_) | (refine ⟨.inr rfl, ret_okj hj (by cbv) ?_ ?_⟩) | (refine ⟨.inl rfl, ret_okj hj (by cbv) ?_ ?_⟩) | ((with_reducible refine ⟨(_, _, _, _), by cbv, ?_, ?_⟩)) | ((with_reducible refine ⟨(_, _), by cbv, ?_, ?_⟩)) | ((with_reducible refine ⟨_, by cbv, ?_, ?_⟩)) | (with_reducible apply_assumption -symm -exfalso only [*]))
  all_goals ((try subst y_rlsOf); (try subst y_dupR); (try subst y_strsOf); (try subst y_idxS); (try subst y_nameI); (try subst y_termI); (try subst y_rC); (try subst y_nR); (try subst y_dstS); (try subst y_badI); (try subst y_fitR); (try subst y_validG); (try subst y_sC); (try subst y_iC); (try subst y_nS); (try subst y_nI))
  all_goals (try (repeat' first | with_reducible exact obl0 | with_reducible refine obl1 ?_ ?_))
  all_goals (try first | with_reducible exact True.intro | ((first | refine ob_le hj ?_ | refine ob_lei hj ?_ | refine ob_inb hj ?_ | refine ob_pos hj ?_ | refine ob_ne0 hj ?_ | refine ob_eqb hj ?_); (first | rfl | first | omega | (simp only [hj, std]; split <;> omega) | (simp (disch := omega) only [hj, std, cmpI, cmpB, satB, add64, sub64, ite0, pl0, pl2, pl3, sb0, if_true, if_false, eq_self] <;> omega) | (simp (disch := omega) [hj, std, cmpI, cmpB, satB, add64, sub64, ite0, pl0, pl2, pl3, sb0, if_true, if_false, eq_self] <;> omega))) | ((refine r1b ?_; exact valid_no1 (by omega))))
  refine aw_lpj hj [(1, .keep), (3, .keep)] [1] (fun (i : Int) => stOf 160 [(1, .one (.ptr 1 0)), (3, .one (.c (vI i)))] [(1, .box [.st ((C.sl (nS ns) (sC ns))), .st ((C.sl (nS ts) (sC ts))), .st ((C.sl (nR rs) (rC rs)))])]) (fun (i : Int) => nS ns - i.toNat) (fun (i : Int) => 0 ≤ i ∧ i ≤ nS ns ∧ (∀ n : Nat, (n : Int) < i → nameI (sAt ns n) = true) ∧ (∀ n : Nat, (n : Int) < i → idxS ns (sAt ns n) = (n : Int)) ∧ ∀ n : Nat, (n : Int) < i → ∃ r ∈ rs, r.1 = (n : Int)) (0) (by generalize @rlsOf = x_rlsOf; generalize @dupR = x_dupR; generalize @strsOf = x_strsOf; generalize @idxS = x_idxS; generalize @nameI = x_nameI; generalize @termI = x_termI; generalize @rC = x_rC; generalize @nR = x_nR; generalize @dstS = x_dstS; generalize @badI = x_badI; generalize @fitR = x_fitR; generalize @validG = x_validG; generalize @sC = x_sC; generalize @iC = x_iC; generalize @nS = x_nS; generalize @nI = x_nI; cbv) ?_ (fun i hI => ?_)
  · exact ⟨by omega, by omega, fun n h => by omega, fun n h => by omega, fun n h => by omega⟩
  obtain ⟨i1, i2, i3, i4, i5⟩ := hI
  have hnn : i < nS ns → (gs (cellAt (sC ns) i.toNat)).size ≤ 1000000 := fun h => by rw [gs_sC]; exact hS.s _ (sAt_mem ns i i1 h)
  generalize y_rlsOf : @rlsOf = x_rlsOf at *
  generalize y_dupR : @dupR = x_dupR at *
  generalize y_strsOf : @strsOf = x_strsOf at *
  generalize y_idxS : @idxS = x_idxS at *
  generalize y_nameI : @nameI = x_nameI at *
  generalize y_termI : @termI = x_termI at *
  generalize y_rC : @rC = x_rC at *
  generalize y_nR : @nR = x_nR at *
  generalize y_dstS : @dstS = x_dstS at *
  generalize y_badI : @badI = x_badI at *
  generalize y_fitR : @fitR = x_fitR at *
  generalize y_validG : @validG = x_validG at *
  generalize y_sC : @sC = x_sC at *
  generalize y_iC : @iC = x_iC at *
  generalize y_nS : @nS = x_nS at *
  generalize y_nI : @nI = x_nI at *
  (repeat' first | ((first | with_reducible refine tr_cut (fun h => ?_) (fun h => ?_) | refine aw_condj (by cbv) (fun h => ?_) (fun h => ?_)) <;> (try simp (disch := omega) only [hj, std, cmpI, cmpB, satB, Bool.not_eq_true, Bool.not_eq_false, decide_eq_true_eq, decide_eq_false_iff_not, beq_iff_eq, bne_iff_ne, bne_eq_false_iff_eq, beq_eq_false_iff_ne, ne_eq, reduceCtorEq, not_true_eq_false, not_false_eq_true, pl0, if_true, cmpS_eq, cmpS_neq, Bool.not_eq_eq_eq_not, Bool.not_true, Bool.not_false, Bool.not_eq_true', add64, sub64] at h) <;> (try (exfalso; omega))) | (with_reducible refine tr_alt (fun h => ?_) ?_ <;> (try (exfalso; omega))) | (with_reducible refine tr_ob ?_ ?_) | (with_reducible refine tr_done ?_) | (refine aw_dr1 (id := 6) hj tok hm (bookG7 x_rlsOf x_dupR x_strsOf x_idxS x_nameI x_termI) true [(0, false), (1, false), (2, true), (3, true), (4, true), (5, true), (6, true), (7, true), (8, false), (9, false), (10, false), (11, false), (12, false), (13, false), (14, false), (16, false), (15, true), (17, true), (18, true)] (by kernel_rfl) (by cbv) ?_) | (refine aw_dr (id := 6) hj tok hm (bookG7 x_rlsOf x_dupR x_strsOf x_idxS x_nameI x_termI) true [(0, false), (1, false), (2, true), (3, true), (4, true), (5, true), (6, true), (7, true), (8, false), (9, false), (10, false), (11, false), (12, false), (13, false), (14, false), (16, false), (15, true), (17, true), (18, true)] (by kernel_rfl) (by cbv) ?_) | (refine aw_tr hj tok (bookG7 x_rlsOf x_dupR x_strsOf x_idxS x_nameI x_termI) (by cbv) ?_) | (refine aw_seq fun K hK => ?_) | (refine aw_tr1 hj tok (bookG7 x_rlsOf x_dupR x_strsOf x_idxS x_nameI x_termI) (by cbv) ?_) | (refine aw_skip ?_) | (refine aw_block ?_) | (refine aw_exit ?_) | (refine aw_ret ⟨.inr rfl, ret_okj hj (by cbv) ?_ ?_⟩) | (refine aw_ret ?_) | (with_reducible refine th_n ?_) | (with_reducible refine th_r ?_) | (with_reducible refine th_x ?_) | (with_reducible refine blk_n ?_) | (with_reducible refine blk_r ?_) | (with_reducible refine blk_x ?_) | (with_reducible refine blk_y rfl ?_) | (refine ⟨.inr rfl, ret_okj hj (by cbv) ?_ ?_⟩) | (refine ⟨.inl rfl, ret_okj hj (by cbv) ?_ ?_⟩) | ((with_reducible refine ⟨(_, _, _, _), by cbv, ?_, ?_⟩)) | ((with_reducible refine ⟨(_, _), by cbv, ?_, ?_⟩)) | ((with_reducible refine ⟨_, by cbv, ?_, ?_⟩)) | (with_reducible apply_assumption -symm -exfalso only [*]))
  all_goals ((try subst y_rlsOf); (try subst y_dupR); (try subst y_strsOf); (try subst y_idxS); (try subst y_nameI); (try subst y_termI); (try subst y_rC); (try subst y_nR); (try subst y_dstS); (try subst y_badI); (try subst y_fitR); (try subst y_validG); (try subst y_sC); (try subst y_iC); (try subst y_nS); (try subst y_nI))
  all_goals (try have q1 := ‹nameI _ = true›)
  all_goals (try have q1 := ‹nameI _ = false›)
  all_goals (try rw [gs_sC] at q1)
  all_goals (try have q2 := ‹idxS _ _ = i›)
  all_goals (try have q2 := ‹¬ idxS _ _ = i›)
  all_goals (try rw [strsOf_sC, gs_sC] at q2)
  all_goals (try (repeat' first | with_reducible exact obl0 | with_reducible refine obl1 ?_ ?_))
  all_goals (try first | with_reducible exact True.intro | (refine ob_pc hj ?_; (try rw [hj]); first | exact c_Name12 (hnn (by omega)) | exact c_Find (by omega)) | (refine ob_pcn hj ?_; (try rw [hj]); first | exact c_Name12 (hnn (by omega)) | exact c_Find (by omega)) | ((first | refine ob_le hj ?_ | refine ob_lei hj ?_ | refine ob_inb hj ?_ | refine ob_pos hj ?_ | refine ob_ne0 hj ?_ | refine ob_eqb hj ?_); (first | rfl | first | omega | (simp only [hj, std]; split <;> omega) | (simp (disch := omega) only [hj, std, cmpI, cmpB, satB, add64, sub64, ite0, pl0, pl2, pl3, sb0, if_true, if_false, eq_self, sC_len] <;> omega) | (simp (disch := omega) [hj, std, cmpI, cmpB, satB, add64, sub64, ite0, pl0, pl2, pl3, sb0, if_true, if_false, eq_self, sC_len] <;> omega))) | ((refine ob_ok hj ?_; simp only [hj, std, ite0]; exact ok_sC (by omega))) | ((refine r1b ?_; exact valid_no2 (dst_no1 i i1 (by omega) q1))) | ((refine r1b ?_; exact valid_no2 (dst_no3 i1 (by omega) q2))))
  · have hil : i < nS ns := by assumption
    refine aw_lpj hj [(1, .keep), (3, .keep), (4, .keep), (5, .keep)] [1] (fun (⟨k, b⟩ : Int × Bool) => stOf 160 [(1, .one (.ptr 1 0)), (3, .one (.c (vI i))), (4, .one (.c (vB b))), (5, .one (.c (vI k)))] [(1, .box [.st ((C.sl (nS ns) (sC ns))), .st ((C.sl (nS ts) (sC ts))), .st ((C.sl (nR rs) (rC rs)))])]) (fun (⟨k, b⟩ : Int × Bool) => nR rs - k.toNat) (fun (⟨k, b⟩ : Int × Bool) => 0 ≤ k ∧ k ≤ nR rs ∧ b = hasL rs i k) ((0, false)) (by generalize @rlsOf = x_rlsOf; generalize @dupR = x_dupR; generalize @strsOf = x_strsOf; generalize @idxS = x_idxS; generalize @nameI = x_nameI; generalize @termI = x_termI; generalize @rC = x_rC; generalize @nR = x_nR; generalize @dstS = x_dstS; generalize @badI = x_badI; generalize @fitR = x_fitR; generalize @validG = x_validG; generalize @sC = x_sC; generalize @iC = x_iC; generalize @nS = x_nS; generalize @nI = x_nI; cbv) ?_ (fun ⟨k, b⟩ hI => ?_)
    · exact ⟨by omega, by omega, rfl⟩
    obtain ⟨k1, k2, k3⟩ := hI
    generalize y_rlsOf : @rlsOf = x_rlsOf at *
    generalize y_dupR : @dupR = x_dupR at *
    generalize y_strsOf : @strsOf = x_strsOf at *
    generalize y_idxS : @idxS = x_idxS at *
    generalize y_nameI : @nameI = x_nameI at *
    generalize y_termI : @termI = x_termI at *
    generalize y_rC : @rC = x_rC at *
    generalize y_nR : @nR = x_nR at *
    generalize y_dstS : @dstS = x_dstS at *
    generalize y_badI : @badI = x_badI at *
    generalize y_fitR : @fitR = x_fitR at *
    generalize y_validG : @validG = x_validG at *
    generalize y_sC : @sC = x_sC at *
    generalize y_iC : @iC = x_iC at *
    generalize y_nS : @nS = x_nS at *
    generalize y_nI : @nI = x_nI at *
    (repeat' first | ((first | with_reducible refine tr_cut (fun h => ?_) (fun h => ?_) | refine aw_condj (by cbv) (fun h => ?_) (fun h => ?_)) <;> (try simp (disch := omega) only [hj, std, cmpI, cmpB, satB, Bool.not_eq_true, Bool.not_eq_false, decide_eq_true_eq, decide_eq_false_iff_not, beq_iff_eq, bne_iff_ne, bne_eq_false_iff_eq, beq_eq_false_iff_ne, ne_eq, reduceCtorEq, not_true_eq_false, not_false_eq_true, pl0, if_true, cmpS_eq, cmpS_neq, Bool.not_eq_eq_eq_not, Bool.not_true, Bool.not_false, Bool.not_eq_true', add64, sub64] at h) <;> (try (exfalso; omega))) | (with_reducible refine tr_alt (fun h => ?_) ?_ <;> (try (exfalso; omega))) | (with_reducible refine tr_ob ?_ ?_) | (with_reducible refine tr_done ?_) | (refine aw_tr hj tok (bookG7 x_rlsOf x_dupR x_strsOf x_idxS x_nameI x_termI) (by cbv) ?_) | (refine aw_seq fun K hK => ?_) | (refine aw_tr1 hj tok (bookG7 x_rlsOf x_dupR x_strsOf x_idxS x_nameI x_termI) (by cbv) ?_) | (refine aw_skip ?_) | (refine aw_block ?_) | (refine aw_exit ?_) | (refine aw_ret ⟨.inr rfl, ret_okj hj (by cbv) ?_ ?_⟩) | (refine aw_ret ?_) | (with_reducible refine th_n ?_) | (with_reducible refine th_r ?_) | (with_reducible refine th_x ?_) | (with_reducible refine blk_n ?_) | (with_reducible refine blk_r ?_) | (with_reducible refine blk_x ?_) | (with_reducible refine blk_y rfl ?_) | (refine ⟨.inr rfl, ret_okj hj (by cbv) ?_ ?_⟩) | (refine ⟨.inl rfl, ret_okj hj (by cbv) ?_ ?_⟩) | ((with_reducible refine ⟨(_, _, _, _), by cbv, ?_, ?_⟩)) | ((with_reducible refine ⟨(_, _), by cbv, ?_, ?_⟩)) | ((with_reducible refine ⟨_, by cbv, ?_, ?_⟩)) | (with_reducible apply_assumption -symm -exfalso only [*]))
    all_goals ((try subst y_rlsOf); (try subst y_dupR); (try subst y_strsOf); (try subst y_idxS); (try subst y_nameI); (try subst y_termI); (try subst y_rC); (try subst y_nR); (try subst y_dstS); (try subst y_badI); (try subst y_fitR); (try subst y_validG); (try subst y_sC); (try subst y_iC); (try subst y_nS); (try subst y_nI))
    all_goals (try have q := ‹gi (cellAt (rC rs) _) = i›)
    all_goals (try have q := ‹¬ gi (cellAt (rC rs) _) = i›)
    all_goals (try rw [gi_rC] at q)
    all_goals (try have r := ‹b = true›)
    all_goals (try have r := ‹b = false›)
    all_goals (try have he := (hasL_end (rs := rs) (i := i) (k := k) (by omega)))
    all_goals (try (repeat' first | with_reducible exact obl0 | with_reducible refine obl1 ?_ ?_))
    all_goals (try first | with_reducible exact True.intro | ((first | refine ob_le hj ?_ | refine ob_lei hj ?_ | refine ob_inb hj ?_ | refine ob_pos hj ?_ | refine ob_ne0 hj ?_ | refine ob_eqb hj ?_); (first | rfl | first | omega | (simp only [hj, std]; split <;> omega) | (simp (disch := omega) only [hj, std, cmpI, cmpB, satB, add64, sub64, ite0, pl0, pl2, pl3, sb0, if_true, if_false, eq_self, rC_len] <;> omega) | (simp (disch := omega) [hj, std, cmpI, cmpB, satB, add64, sub64, ite0, pl0, pl2, pl3, sb0, if_true, if_false, eq_self, rC_len] <;> omega))) | ((refine ob_ok hj ?_; simp only [hj, std, ite0]; first | exact ok_rC1 (by omega) | exact ok_rC0 (by omega))) | ((refine r1b ?_; refine valid_no5 i1 hil fun r hr e => ?_; have h8 := he.2 ⟨r, hr, e⟩; rw [← k3] at h8; simp_all)) | ((simp (disch := omega) only [hj, std, add64]; first | omega | exact ⟨by omega, by omega, by rw [hasL_step k1 (by omega), q]; simp⟩ | exact ⟨by omega, by omega, by rw [hasL_step k1 (by omega), ← k3, decide_eq_false q]; simp⟩ | (refine ⟨by omega, by omega, fun n hn => ?_, fun n hn => ?_, fun n hn => ?_⟩; by_cases e : (n : Int) < i; exact i3 n e; obtain rfl : n = i.toNat := (by omega); exact q1; by_cases e : (n : Int) < i; exact i4 n e; obtain rfl : n = i.toNat := (by omega); rw [q2]; omega; by_cases e : (n : Int) < i; exact i5 n e; obtain rfl : n = i.toNat := (by omega); have h8 := he.1 (by rw [← k3]; exact r); rw [show ((i.toNat : Nat) : Int) = i by omega]; exact h8))))
  have hA : dstS nameI ns = true := dst_all (fun n hn => i3 n (by omega)) (fun n hn => i4 n (by omega))
  have hA5 : ∀ n : Nat, n < nS ns → ∃ r ∈ rs, r.1 = (n : Int) := fun n hn => i5 n (by omega)
  clear i3 i4 i5
  refine aw_lpj hj [(1, .keep), (6, .keep)] [1] (fun (m : Int) => stOf 160 [(1, .one (.ptr 1 0)), (6, .one (.c (vI m)))] [(1, .box [.st ((C.sl (nS ns) (sC ns))), .st ((C.sl (nS ts) (sC ts))), .st ((C.sl (nR rs) (rC rs)))])]) (fun (m : Int) => nS ts - m.toNat) (fun (m : Int) => 0 ≤ m ∧ m ≤ nS ts ∧ (∀ n : Nat, (n : Int) < m → termI (sAt ts n) = true) ∧ (∀ n : Nat, (n : Int) < m → idxS ts (sAt ts n) = (n : Int))) (0) (by generalize @rlsOf = x_rlsOf; generalize @dupR = x_dupR; generalize @strsOf = x_strsOf; generalize @idxS = x_idxS; generalize @nameI = x_nameI; generalize @termI = x_termI; generalize @rC = x_rC; generalize @nR = x_nR; generalize @dstS = x_dstS; generalize @badI = x_badI; generalize @fitR = x_fitR; generalize @validG = x_validG; generalize @sC = x_sC; generalize @iC = x_iC; generalize @nS = x_nS; generalize @nI = x_nI; cbv) ?_ (fun m hI => ?_)
  · exact ⟨by omega, by omega, fun n h => by omega, fun n h => by omega⟩
  obtain ⟨m1, m2, m3, m4⟩ := hI
  have hmm : m < nS ts → (gs (cellAt (sC ts) m.toNat)).size ≤ 1000000 := fun h => by rw [gs_sC]; exact hS.u _ (sAt_mem ts m m1 h)
  generalize y_rlsOf : @rlsOf = x_rlsOf at *
  generalize y_dupR : @dupR = x_dupR at *
  generalize y_strsOf : @strsOf = x_strsOf at *
  generalize y_idxS : @idxS = x_idxS at *
  generalize y_nameI : @nameI = x_nameI at *
  generalize y_termI : @termI = x_termI at *
  generalize y_rC : @rC = x_rC at *
  generalize y_nR : @nR = x_nR at *
  generalize y_dstS : @dstS = x_dstS at *
  generalize y_badI : @badI = x_badI at *
  generalize y_fitR : @fitR = x_fitR at *
  generalize y_validG : @validG = x_validG at *
  generalize y_sC : @sC = x_sC at *
  generalize y_iC : @iC = x_iC at *
  generalize y_nS : @nS = x_nS at *
  generalize y_nI : @nI = x_nI at *
  (repeat' first | ((first | with_reducible refine tr_cut (fun h => ?_) (fun h => ?_) | refine aw_condj (by cbv) (fun h => ?_) (fun h => ?_)) <;> (try simp (disch := omega) only [hj, std, cmpI, cmpB, satB, Bool.not_eq_true, Bool.not_eq_false, decide_eq_true_eq, decide_eq_false_iff_not, beq_iff_eq, bne_iff_ne, bne_eq_false_iff_eq, beq_eq_false_iff_ne, ne_eq, reduceCtorEq, not_true_eq_false, not_false_eq_true, pl0, if_true, cmpS_eq, cmpS_neq, Bool.not_eq_eq_eq_not, Bool.not_true, Bool.not_false, Bool.not_eq_true', add64, sub64] at h) <;> (try (exfalso; omega))) | (with_reducible refine tr_alt (fun h => ?_) ?_ <;> (try (exfalso; omega))) | (with_reducible refine tr_ob ?_ ?_) | (with_reducible refine tr_done ?_) | (refine aw_dr1 (id := 19) hj tok hm (bookG7 x_rlsOf x_dupR x_strsOf x_idxS x_nameI x_termI) true [(0, false), (1, false), (2, true), (3, true), (4, true), (5, true), (6, true), (7, true), (8, false), (9, false), (10, false), (11, false), (12, false), (13, false), (14, false), (16, false), (15, true), (17, true), (18, true)] (by kernel_rfl) (by cbv) ?_) | (refine aw_dr (id := 19) hj tok hm (bookG7 x_rlsOf x_dupR x_strsOf x_idxS x_nameI x_termI) true [(0, false), (1, false), (2, true), (3, true), (4, true), (5, true), (6, true), (7, true), (8, false), (9, false), (10, false), (11, false), (12, false), (13, false), (14, false), (16, false), (15, true), (17, true), (18, true)] (by kernel_rfl) (by cbv) ?_) | (refine aw_tr hj tok (bookG7 x_rlsOf x_dupR x_strsOf x_idxS x_nameI x_termI) (by cbv) ?_) | (refine aw_seq fun K hK => ?_) | (refine aw_tr1 hj tok (bookG7 x_rlsOf x_dupR x_strsOf x_idxS x_nameI x_termI) (by cbv) ?_) | (refine aw_skip ?_) | (refine aw_block ?_) | (refine aw_exit ?_) | (refine aw_ret ⟨.inr rfl, ret_okj hj (by cbv) ?_ ?_⟩) | (refine aw_ret ?_) | (with_reducible refine th_n ?_) | (with_reducible refine th_r ?_) | (with_reducible refine th_x ?_) | (with_reducible refine blk_n ?_) | (with_reducible refine blk_r ?_) | (with_reducible refine blk_x ?_) | (with_reducible refine blk_y rfl ?_) | (refine ⟨.inr rfl, ret_okj hj (by cbv) ?_ ?_⟩) | (refine ⟨.inl rfl, ret_okj hj (by cbv) ?_ ?_⟩) | ((with_reducible refine ⟨(_, _, _, _), by cbv, ?_, ?_⟩)) | ((with_reducible refine ⟨(_, _), by cbv, ?_, ?_⟩)) | ((with_reducible refine ⟨_, by cbv, ?_, ?_⟩)) | (with_reducible apply_assumption -symm -exfalso only [*]))
  all_goals ((try subst y_rlsOf); (try subst y_dupR); (try subst y_strsOf); (try subst y_idxS); (try subst y_nameI); (try subst y_termI); (try subst y_rC); (try subst y_nR); (try subst y_dstS); (try subst y_badI); (try subst y_fitR); (try subst y_validG); (try subst y_sC); (try subst y_iC); (try subst y_nS); (try subst y_nI))
  all_goals (try have q1 := ‹termI _ = true›)
  all_goals (try have q1 := ‹termI _ = false›)
  all_goals (try rw [gs_sC] at q1)
  all_goals (try have q2 := ‹idxS _ _ = m›)
  all_goals (try have q2 := ‹¬ idxS _ _ = m›)
  all_goals (try rw [strsOf_sC, gs_sC] at q2)
  all_goals (try (repeat' first | with_reducible exact obl0 | with_reducible refine obl1 ?_ ?_))
  all_goals (try first | with_reducible exact True.intro | (refine ob_pc hj ?_; (try rw [hj]); first | exact c_Term12 (hmm (by omega)) | exact c_Find (by omega)) | (refine ob_pcn hj ?_; (try rw [hj]); first | exact c_Term12 (hmm (by omega)) | exact c_Find (by omega)) | ((first | refine ob_le hj ?_ | refine ob_lei hj ?_ | refine ob_inb hj ?_ | refine ob_pos hj ?_ | refine ob_ne0 hj ?_ | refine ob_eqb hj ?_); (first | rfl | first | omega | (simp only [hj, std]; split <;> omega) | (simp (disch := omega) only [hj, std, cmpI, cmpB, satB, add64, sub64, ite0, pl0, pl2, pl3, sb0, if_true, if_false, eq_self, sC_len] <;> omega) | (simp (disch := omega) [hj, std, cmpI, cmpB, satB, add64, sub64, ite0, pl0, pl2, pl3, sb0, if_true, if_false, eq_self, sC_len] <;> omega))) | ((refine ob_ok hj ?_; simp only [hj, std, ite0]; exact ok_sC (by omega))) | ((refine r1b ?_; exact valid_no3 (dst_no1 m m1 (by omega) q1))) | ((refine r1b ?_; exact valid_no3 (dst_no3 m1 (by omega) q2))) | ((simp (disch := omega) only [hj, std, add64]; first | omega | (refine ⟨by omega, by omega, fun n hn => ?_, fun n hn => ?_⟩; by_cases e : (n : Int) < m; exact m3 n e; obtain rfl : n = m.toNat := (by omega); exact q1; by_cases e : (n : Int) < m; exact m4 n e; obtain rfl : n = m.toNat := (by omega); rw [q2]; omega))))
  have hB : dstS termI ts = true := dst_all (fun n hn => m3 n (by omega)) (fun n hn => m4 n (by omega))
  clear m3 m4
  refine aw_lpj hj [(1, .keep), (7, .keep)] [1] (fun (p : Int) => stOf 160 [(1, .one (.ptr 1 0)), (7, .one (.c (vI p)))] [(1, .box [.st ((C.sl (nS ns) (sC ns))), .st ((C.sl (nS ts) (sC ts))), .st ((C.sl (nR rs) (rC rs)))])]) (fun (p : Int) => nR rs - p.toNat) (fun (p : Int) => 0 ≤ p ∧ p ≤ nR rs ∧ ∀ n : Nat, (n : Int) < p → fitR (nS ns) (nS ts) (rAt rs n) = true) (0) (by generalize @rlsOf = x_rlsOf; generalize @dupR = x_dupR; generalize @strsOf = x_strsOf; generalize @idxS = x_idxS; generalize @nameI = x_nameI; generalize @termI = x_termI; generalize @rC = x_rC; generalize @nR = x_nR; generalize @dstS = x_dstS; generalize @badI = x_badI; generalize @fitR = x_fitR; generalize @validG = x_validG; generalize @sC = x_sC; generalize @iC = x_iC; generalize @nS = x_nS; generalize @nI = x_nI; cbv) ?_ (fun p hI => ?_)
  · exact ⟨by omega, by omega, fun n h => by omega⟩
  obtain ⟨p1, p2, p3⟩ := hI
  have e1 : gi (cellAt (rC rs) (p.toNat * 2)) = (rAt rs p.toNat).1 := gi_rC _ _
  have e2 : gn (cellAt (rC rs) (p.toNat * 2 + 1)) = nI (rAt rs p.toNat).2 := gn_rC _ _
  have e3 : gc (cellAt (rC rs) (p.toNat * 2 + 1)) = iC (rAt rs p.toNat).2 := gc_rC _ _
  generalize y_rlsOf : @rlsOf = x_rlsOf at *
  generalize y_dupR : @dupR = x_dupR at *
  generalize y_strsOf : @strsOf = x_strsOf at *
  generalize y_idxS : @idxS = x_idxS at *
  generalize y_nameI : @nameI = x_nameI at *
  generalize y_termI : @termI = x_termI at *
  generalize y_rC : @rC = x_rC at *
  generalize y_nR : @nR = x_nR at *
  generalize y_dstS : @dstS = x_dstS at *
  generalize y_badI : @badI = x_badI at *
  generalize y_fitR : @fitR = x_fitR at *
  generalize y_validG : @validG = x_validG at *
  generalize y_sC : @sC = x_sC at *
  generalize y_iC : @iC = x_iC at *
  generalize y_nS : @nS = x_nS at *
  generalize y_nI : @nI = x_nI at *
  (repeat' first | ((first | with_reducible refine tr_cut (fun h => ?_) (fun h => ?_) | refine aw_condj (by cbv) (fun h => ?_) (fun h => ?_)) <;> (try simp (disch := omega) only [hj, std, cmpI, cmpB, satB, Bool.not_eq_true, Bool.not_eq_false, decide_eq_true_eq, decide_eq_false_iff_not, beq_iff_eq, bne_iff_ne, bne_eq_false_iff_eq, beq_eq_false_iff_ne, ne_eq, reduceCtorEq, not_true_eq_false, not_false_eq_true, pl0, if_true, cmpS_eq, cmpS_neq, Bool.not_eq_eq_eq_not, Bool.not_true, Bool.not_false, Bool.not_eq_true', add64, sub64] at h) <;> (try (exfalso; omega))) | (with_reducible refine tr_alt (fun h => ?_) ?_ <;> (try (exfalso; omega))) | (with_reducible refine tr_ob ?_ ?_) | (with_reducible refine tr_done ?_) | (refine aw_tr hj tok (bookG7 x_rlsOf x_dupR x_strsOf x_idxS x_nameI x_termI) (by cbv) ?_) | (refine aw_seq fun K hK => ?_) | (refine aw_tr1 hj tok (bookG7 x_rlsOf x_dupR x_strsOf x_idxS x_nameI x_termI) (by cbv) ?_) | (refine aw_skip ?_) | (refine aw_block ?_) | (refine aw_exit ?_) | (refine aw_ret ⟨.inr rfl, ret_okj hj (by cbv) ?_ ?_⟩) | (refine aw_ret ?_) | (with_reducible refine th_n ?_) | (with_reducible refine th_r ?_) | (with_reducible refine th_x ?_) | (with_reducible refine blk_n ?_) | (with_reducible refine blk_r ?_) | (with_reducible refine blk_x ?_) | (with_reducible refine blk_y rfl ?_) | (refine ⟨.inr rfl, ret_okj hj (by cbv) ?_ ?_⟩) | (refine ⟨.inl rfl, ret_okj hj (by cbv) ?_ ?_⟩) | ((with_reducible refine ⟨(_, _, _, _), by cbv, ?_, ?_⟩)) | ((with_reducible refine ⟨(_, _), by cbv, ?_, ?_⟩)) | ((with_reducible refine ⟨_, by cbv, ?_, ?_⟩)) | (with_reducible apply_assumption -symm -exfalso only [*]))
  all_goals ((try subst y_rlsOf); (try subst y_dupR); (try subst y_strsOf); (try subst y_idxS); (try subst y_nameI); (try subst y_termI); (try subst y_rC); (try subst y_nR); (try subst y_dstS); (try subst y_badI); (try subst y_fitR); (try subst y_validG); (try subst y_sC); (try subst y_iC); (try subst y_nS); (try subst y_nI))
  all_goals (try (repeat' first | with_reducible exact obl0 | with_reducible refine obl1 ?_ ?_))
  all_goals (try first | with_reducible exact True.intro | (refine ob_pc hj ?_; (try rw [hj]); first | exact c_tw14 hc hS.i) | (refine ob_pcn hj ?_; (try rw [hj]); first | exact c_tw14 hc hS.i) | ((first | refine ob_le hj ?_ | refine ob_lei hj ?_ | refine ob_inb hj ?_ | refine ob_pos hj ?_ | refine ob_ne0 hj ?_ | refine ob_eqb hj ?_); (first | rfl | first | omega | (simp only [hj, std]; split <;> omega) | (simp (disch := omega) only [hj, std, cmpI, cmpB, satB, add64, sub64, ite0, pl0, pl2, pl3, sb0, if_true, if_false, eq_self, rC_len] <;> omega) | (simp (disch := omega) [hj, std, cmpI, cmpB, satB, add64, sub64, ite0, pl0, pl2, pl3, sb0, if_true, if_false, eq_self, rC_len] <;> omega))) | ((refine ob_ok hj ?_; simp only [hj, std, ite0]; first | exact ok_rC1 (by omega) | exact ok_rC0 (by omega))) | ((refine r1b ?_; exact valid_no4 p1 (by omega) (fit_no1 (x := (rAt rs p.toNat).1) (l := (rAt rs p.toNat).2) (by omega)))) | ((refine r1b ?_; rw [valid_at (by omega) hA hB (fun n hn => p3 n (by omega)) hA5, rlsOf_rC, hj]; rfl)))
  have hpl : p < nR rs := by assumption
  have hR := hS.i _ (rAt_mem rs p p1 hpl)
  have hx : 0 ≤ (rAt rs p.toNat).1 ∧ (rAt rs p.toNat).1 < nS ns ∧ nI (rAt rs p.toNat).2 ≤ 64 := by omega
  generalize hRl : rAt rs p.toNat = R at *
  refine aw_lpj hj [(1, .keep), (7, .keep), (8, .keep), (9, .keep)] [1, 8] (fun (⟨k, x, n, cs⟩ : Int × Int × Nat × (List C)) => stOf 160 [(1, .one (.ptr 1 0)), (7, .one (.c (vI p))), (8, .one (.ptr 8 0)), (9, .one (.c (vI k)))] [(1, .box [.st ((C.sl (nS ns) (sC ns))), .st ((C.sl (nS ts) (sC ts))), .st ((C.sl (nR rs) (rC rs)))]), (8, .box [.st (.val (.int .i64 x)), .st (.sl n cs)])]) (fun (⟨k, x, n, cs⟩ : Int × Int × Nat × (List C)) => nI R.2 - k.toNat) (fun (⟨k, x, n, cs⟩ : Int × Int × Nat × (List C)) => 0 ≤ k ∧ k ≤ nI R.2 ∧ n = nI R.2 ∧ cs = iC R.2 ∧ ∀ a : Nat, (a : Int) < k → badI (nS ns) (nS ts) (iAt R.2 a) = false) ((0, j.gi (j.cell (rC rs) (j.mul (j.toNat p) 2)), j.gn (j.cell (rC rs) (j.add (j.mul (j.toNat p) 2) 1)), j.gc (j.cell (rC rs) (j.add (j.mul (j.toNat p) 2) 1)))) (by generalize @rlsOf = x_rlsOf; generalize @dupR = x_dupR; generalize @strsOf = x_strsOf; generalize @idxS = x_idxS; generalize @nameI = x_nameI; generalize @termI = x_termI; generalize @rC = x_rC; generalize @nR = x_nR; generalize @dstS = x_dstS; generalize @badI = x_badI; generalize @fitR = x_fitR; generalize @validG = x_validG; generalize @sC = x_sC; generalize @iC = x_iC; generalize @nS = x_nS; generalize @nI = x_nI; cbv) ?_ (fun ⟨k, x, n, cs⟩ hI => ?_)
  · refine ⟨by omega, by omega, ?_, ?_, fun n h => by omega⟩
    · rw [hj]; exact e2
    · rw [hj]; exact e3
  obtain ⟨k1, k2, rfl, rfl, k3⟩ := hI
  have e4 : gi (cellAt (iC R.2) k.toNat) = iAt R.2 k.toNat := gi_iC _ _
  have nR2 := nI_eq R.2
  generalize y_rlsOf : @rlsOf = x_rlsOf at *
  generalize y_dupR : @dupR = x_dupR at *
  generalize y_strsOf : @strsOf = x_strsOf at *
  generalize y_idxS : @idxS = x_idxS at *
  generalize y_nameI : @nameI = x_nameI at *
  generalize y_termI : @termI = x_termI at *
  generalize y_rC : @rC = x_rC at *
  generalize y_nR : @nR = x_nR at *
  generalize y_dstS : @dstS = x_dstS at *
  generalize y_badI : @badI = x_badI at *
  generalize y_fitR : @fitR = x_fitR at *
  generalize y_validG : @validG = x_validG at *
  generalize y_sC : @sC = x_sC at *
  generalize y_iC : @iC = x_iC at *
  generalize y_nS : @nS = x_nS at *
  generalize y_nI : @nI = x_nI at *
  (repeat' first | ((first | with_reducible refine tr_cut (fun h => ?_) (fun h => ?_) | refine aw_condj (by cbv) (fun h => ?_) (fun h => ?_)) <;> (try simp (disch := omega) only [hj, std, cmpI, cmpB, satB, Bool.not_eq_true, Bool.not_eq_false, decide_eq_true_eq, decide_eq_false_iff_not, beq_iff_eq, bne_iff_ne, bne_eq_false_iff_eq, beq_eq_false_iff_ne, ne_eq, reduceCtorEq, not_true_eq_false, not_false_eq_true, pl0, if_true, cmpS_eq, cmpS_neq, Bool.not_eq_eq_eq_not, Bool.not_true, Bool.not_false, Bool.not_eq_true', add64, sub64] at h) <;> (try (exfalso; omega))) | (with_reducible refine tr_alt (fun h => ?_) ?_ <;> (try (exfalso; omega))) | (with_reducible refine tr_ob ?_ ?_) | (with_reducible refine tr_done ?_) | (refine aw_dr1 (id := 30) hj tok hm (bookG7 x_rlsOf x_dupR x_strsOf x_idxS x_nameI x_termI) true [(0, false), (1, false), (2, false), (3, false), (4, false), (5, true), (6, true), (7, true), (8, true), (9, true), (10, false), (11, false), (12, false), (13, false), (14, false), (15, true), (16, true), (17, true), (18, true), (19, true), (20, true)] (by kernel_rfl) (by cbv) ?_) | (refine aw_dr (id := 30) hj tok hm (bookG7 x_rlsOf x_dupR x_strsOf x_idxS x_nameI x_termI) true [(0, false), (1, false), (2, false), (3, false), (4, false), (5, true), (6, true), (7, true), (8, true), (9, true), (10, false), (11, false), (12, false), (13, false), (14, false), (15, true), (16, true), (17, true), (18, true), (19, true), (20, true)] (by kernel_rfl) (by cbv) ?_) | (refine aw_tr hj tok (bookG7 x_rlsOf x_dupR x_strsOf x_idxS x_nameI x_termI) (by cbv) ?_) | (refine aw_seq fun K hK => ?_) | (refine aw_tr1 hj tok (bookG7 x_rlsOf x_dupR x_strsOf x_idxS x_nameI x_termI) (by cbv) ?_) | (refine aw_skip ?_) | (refine aw_block ?_) | (refine aw_exit ?_) | (refine aw_ret ⟨.inr rfl, ret_okj hj (by cbv) ?_ ?_⟩) | (refine aw_ret ?_) | (with_reducible refine th_n ?_) | (with_reducible refine th_r ?_) | (with_reducible refine th_x ?_) | (with_reducible refine blk_n ?_) | (with_reducible refine blk_r ?_) | (with_reducible refine blk_x ?_) | (with_reducible refine blk_y rfl ?_) | (refine ⟨.inr rfl, ret_okj hj (by cbv) ?_ ?_⟩) | (refine ⟨.inl rfl, ret_okj hj (by cbv) ?_ ?_⟩) | ((with_reducible refine ⟨(_, _, _, _), by cbv, ?_, ?_⟩)) | ((with_reducible refine ⟨(_, _), by cbv, ?_, ?_⟩)) | ((with_reducible refine ⟨_, by cbv, ?_, ?_⟩)) | (with_reducible apply_assumption -symm -exfalso only [*]))
  all_goals ((try subst y_rlsOf); (try subst y_dupR); (try subst y_strsOf); (try subst y_idxS); (try subst y_nameI); (try subst y_termI); (try subst y_rC); (try subst y_nR); (try subst y_dstS); (try subst y_badI); (try subst y_fitR); (try subst y_validG); (try subst y_sC); (try subst y_iC); (try subst y_nS); (try subst y_nI))
  all_goals (try (repeat' first | with_reducible exact obl0 | with_reducible refine obl1 ?_ ?_))
  all_goals (try first | with_reducible exact True.intro | ((first | refine ob_le hj ?_ | refine ob_lei hj ?_ | refine ob_inb hj ?_ | refine ob_pos hj ?_ | refine ob_ne0 hj ?_ | refine ob_eqb hj ?_); (first | rfl | first | omega | (simp only [hj, std]; split <;> omega) | (simp (disch := omega) only [hj, std, cmpI, cmpB, satB, add64, sub64, ite0, pl0, pl2, pl3, sb0, if_true, if_false, eq_self, iC_len] <;> omega) | (simp (disch := omega) [hj, std, cmpI, cmpB, satB, add64, sub64, ite0, pl0, pl2, pl3, sb0, if_true, if_false, eq_self, iC_len] <;> omega))) | ((refine ob_ok hj ?_; simp only [hj, std, ite0]; exact ok_iC (by omega))) | ((refine r1b ?_; refine valid_no4 p1 hpl ?_; rw [hRl]; refine fit_no2 k1 (by omega) ?_; unfold badI; rw [decide_eq_true_eq]; omega)) | ((simp (disch := omega) only [hj, std, add64]; first | omega | (refine ⟨by omega, by omega, trivial, trivial, fun a ha => ?_⟩; by_cases e : (a : Int) < k; exact k3 a e; obtain rfl : a = k.toNat := (by omega); unfold badI; rw [decide_eq_false_iff_not]; omega) | (refine ⟨by omega, by omega, fun a ha => ?_⟩; by_cases e : (a : Int) < p; exact p3 a e; obtain rfl : a = p.toNat := (by omega); rw [hRl]; exact fit_all (x := R.1) (l := R.2) hx fun b hb => k3 b (by omega)))))
end Go.Proofs.Ytgimfjmigoibgaa.A
/- Grammars: two that are the same, by the program and by the reference. -/
set_option linter.unusedSimpArgs false
set_option linter.unusedVariables false
set_option maxRecDepth 100000
set_option maxHeartbeats 4000000
namespace Go.Proofs.Ytgimfjmigoibgaa.A
open Go
theorem sameS_iff {l m : List ByteArray} : sameS l m = true ↔ l = m := by unfold sameS; rw [decide_eq_true_eq]
def sameL2 (l m : List Rl) : Bool := decide (l = m)
theorem ext_rAt {l m : List Rl} (h : nR l = nR m) (k : ∀ n : Nat, n < nR l → rAt l n = rAt m n) : l = m := by
  rw [nR_eq, nR_eq] at h
  refine List.ext_getElem h fun n h1 h2 => ?_
  have := k n (by rw [nR_eq]; exact h1)
  rwa [rAt_get h1, rAt_get h2] at this
theorem sameL2_yes {l m : List Rl} (h : nR l = nR m) (k : ∀ n : Nat, n < nR l → rAt l n = rAt m n) : sameL2 l m = true := by unfold sameL2; rw [decide_eq_true_eq]; exact ext_rAt h k
theorem sameL2_no {l m : List Rl} (h : nR l ≠ nR m ∨ ∃ n : Nat, rAt l n ≠ rAt m n) : sameL2 l m = false := by
  unfold sameL2; rw [decide_eq_false_iff_not]
  rintro rfl
  rcases h with h | ⟨n, h⟩
  · exact h rfl
  · exact h rfl
theorem sameL2_iff {l m : List Rl} : sameL2 l m = true ↔ l = m := by unfold sameL2; rw [decide_eq_true_eq]
theorem pc_EqualS (l m : List ByteArray) (hl : nS l < 4611686018427387904) (hm2 : nS m < 4611686018427387904) : PC Try.prog T 43 [.v false [(C.sl (nS l) (sC l))], .v false [(C.sl (nS m) (sC m))]] (ret1 (.st (vB (sameS l m)))) [] := by
  refine pc_of tok Try.func43 rfl (by rfl) ?_
  obtain ⟨j, hj⟩ : ∃ j : J, j = std Try.prog T := ⟨_, rfl⟩
  have hm : Try.prog.follows .mixedOrders = true := by kernel_rfl
  generalize y_sC : @sC = x_sC at *
  generalize y_nS : @nS = x_nS at *
  generalize y_sameS : @sameS = x_sameS at *
  (repeat' first | ((first | with_reducible refine tr_cut (fun h => ?_) (fun h => ?_) | refine aw_condj (by cbv) (fun h => ?_) (fun h => ?_)) <;> (try simp (disch := omega) only [hj, std, cmpI, cmpB, satB, Bool.not_eq_true, Bool.not_eq_false, decide_eq_true_eq, decide_eq_false_iff_not, beq_iff_eq, bne_iff_ne, bne_eq_false_iff_eq, beq_eq_false_iff_ne, ne_eq, reduceCtorEq, not_true_eq_false, not_false_eq_true, pl0, if_true, cmpS_eq, cmpS_neq, Bool.not_eq_eq_eq_not, Bool.not_true, Bool.not_false, Bool.not_eq_true', add64, sub64] at h) <;> (try (exfalso; omega))) | (with_reducible refine tr_alt (fun h => ?_) ?_ <;> (try (exfalso; omega))) | (with_reducible refine tr_ob ?_ ?_) | (with_reducible refine tr_done ?_) | (refine aw_tr hj tok book0 (by cbv) ?_) | (refine aw_seq fun K hK => ?_) | (refine aw_tr1 hj tok book0 (by cbv) ?_) | (refine aw_skip ?_) | (refine aw_block ?_) | (refine aw_exit ?_) | (refine aw_ret ⟨.inr rfl, ret_okj hj (by cbv) ?_ ?_⟩) | (refine aw_ret ?_) | (with_reducible refine th_n ?_) | (with_reducible refine th_r ?_) | (with_reducible refine th_x ?_) | (with_reducible refine blk_n ?_) | (with_reducible refine blk_r ?_) | (with_reducible refine blk_x ?_) | (with_reducible refine blk_y rfl ?_) | (refine ⟨.inr rfl, ret_okj hj (by cbv) ?_ ?_⟩) | (refine ⟨.inl rfl, ret_okj hj (by cbv) ?_ ?_⟩) | ((with_reducible refine ⟨_, by cbv, ?_, ?_⟩)) | (with_reducible apply_assumption -symm -exfalso only [*]))
  all_goals ((try subst y_sC); (try subst y_nS); (try subst y_sameS))
  all_goals (try (repeat' first | with_reducible exact obl0 | with_reducible refine obl1 ?_ ?_))
  all_goals (try first | with_reducible exact True.intro | ((first | refine ob_le hj ?_ | refine ob_lei hj ?_ | refine ob_inb hj ?_ | refine ob_pos hj ?_ | refine ob_ne0 hj ?_ | refine ob_eqb hj ?_); (first | rfl | first | omega | (simp only [hj, std]; split <;> omega) | (simp (disch := omega) only [hj, std, cmpI, cmpB, satB, add64, sub64, ite0, pl0, pl2, pl3, sb0, if_true, if_false, eq_self] <;> omega) | (simp (disch := omega) [hj, std, cmpI, cmpB, satB, add64, sub64, ite0, pl0, pl2, pl3, sb0, if_true, if_false, eq_self] <;> omega))) | ((refine r1b ?_; exact sameS_no (.inl (by omega)))))
  refine aw_lpj hj [(0, .keep), (1, .keep), (12, .keep), (13, .keep)] [] (fun (i : Int) => stOf 26 [(0, .one (.c ((C.sl (nS l) (sC l))))), (1, .one (.c ((C.sl (nS m) (sC m))))), (12, .one (.c (vI (j.ofNat (nS l))))), (13, .one (.c (vI i)))] []) (fun (i : Int) => nS l - i.toNat) (fun (i : Int) => 0 ≤ i ∧ i ≤ nS l ∧ ∀ n : Nat, (n : Int) < i → sAt l n = sAt m n) (0) (by generalize @sC = x_sC; generalize @nS = x_nS; generalize @sameS = x_sameS; cbv) ?_ (fun i hI => ?_)
  · exact ⟨by omega, by omega, fun n h => by omega⟩
  obtain ⟨i1, i2, i3⟩ := hI
  generalize y_sC : @sC = x_sC at *
  generalize y_nS : @nS = x_nS at *
  generalize y_sameS : @sameS = x_sameS at *
  (repeat' first | ((first | with_reducible refine tr_cut (fun h => ?_) (fun h => ?_) | refine aw_condj (by cbv) (fun h => ?_) (fun h => ?_)) <;> (try simp (disch := omega) only [hj, std, cmpI, cmpB, satB, Bool.not_eq_true, Bool.not_eq_false, decide_eq_true_eq, decide_eq_false_iff_not, beq_iff_eq, bne_iff_ne, bne_eq_false_iff_eq, beq_eq_false_iff_ne, ne_eq, reduceCtorEq, not_true_eq_false, not_false_eq_true, pl0, if_true, cmpS_eq, cmpS_neq, Bool.not_eq_eq_eq_not, Bool.not_true, Bool.not_false, Bool.not_eq_true', gs_sC, add64, sub64] at h) <;> (try (exfalso; omega))) | (with_reducible refine tr_alt (fun h => ?_) ?_ <;> (try (exfalso; omega))) | (with_reducible refine tr_ob ?_ ?_) | (with_reducible refine tr_done ?_) | (refine aw_dr1 (id := 6) hj tok hm book0 true [(0, false), (1, false), (2, false), (3, false), (4, false), (5, true), (6, true), (7, true), (8, true)] (by kernel_rfl) (by cbv) ?_) | (refine aw_dr (id := 6) hj tok hm book0 true [(0, false), (1, false), (2, false), (3, false), (4, false), (5, true), (6, true), (7, true), (8, true)] (by kernel_rfl) (by cbv) ?_) | (refine aw_tr hj tok book0 (by cbv) ?_) | (refine aw_seq fun K hK => ?_) | (refine aw_tr1 hj tok book0 (by cbv) ?_) | (refine aw_skip ?_) | (refine aw_block ?_) | (refine aw_exit ?_) | (refine aw_ret ⟨.inr rfl, ret_okj hj (by cbv) ?_ ?_⟩) | (refine aw_ret ?_) | (with_reducible refine th_n ?_) | (with_reducible refine th_r ?_) | (with_reducible refine th_x ?_) | (with_reducible refine blk_n ?_) | (with_reducible refine blk_r ?_) | (with_reducible refine blk_x ?_) | (with_reducible refine blk_y rfl ?_) | (refine ⟨.inr rfl, ret_okj hj (by cbv) ?_ ?_⟩) | (refine ⟨.inl rfl, ret_okj hj (by cbv) ?_ ?_⟩) | ((with_reducible refine ⟨_, by cbv, ?_, ?_⟩)) | (with_reducible apply_assumption -symm -exfalso only [*]))
  all_goals ((try subst y_sC); (try subst y_nS); (try subst y_sameS))
  all_goals (have nl := nS_eq l; have nm := nS_eq m)
  all_goals (try have q := ‹gs (cellAt (sC l) _) = _›)
  all_goals (try have q := ‹¬ gs (cellAt (sC l) _) = _›)
  all_goals (try rw [gs_sC, gs_sC] at q)
  all_goals (try (repeat' first | with_reducible exact obl0 | with_reducible refine obl1 ?_ ?_))
  all_goals (try first | with_reducible exact True.intro | ((first | refine ob_le hj ?_ | refine ob_lei hj ?_ | refine ob_inb hj ?_ | refine ob_pos hj ?_ | refine ob_ne0 hj ?_ | refine ob_eqb hj ?_); (first | rfl | first | omega | (simp only [hj, std]; split <;> omega) | (simp (disch := omega) only [hj, std, cmpI, cmpB, satB, add64, sub64, ite0, pl0, pl2, pl3, sb0, if_true, if_false, eq_self, sC_len] <;> omega) | (simp (disch := omega) [hj, std, cmpI, cmpB, satB, add64, sub64, ite0, pl0, pl2, pl3, sb0, if_true, if_false, eq_self, sC_len] <;> omega))) | ((refine ob_ok hj ?_; simp only [hj, std, ite0]; exact ok_sC (by omega))) | ((refine r1b ?_; exact sameS_no (.inr ⟨_, q⟩))) | ((refine r1b ?_; exact sameS_yes (by omega) fun n hn => i3 n (by omega))) | ((simp (disch := omega) only [hj, std, add64]; first | omega | (refine ⟨by omega, by omega, fun n hn => ?_⟩; by_cases e : (n : Int) < i; exact i3 n e; obtain rfl : n = i.toNat := (by omega); exact q))))
theorem likeR_true {a b : Rl} : likeR a b = true ↔ a = b := by unfold likeR; rw [decide_eq_true_eq]
theorem likeR_false {a b : Rl} : likeR a b = false ↔ ¬ a = b := by unfold likeR; rw [decide_eq_false_iff_not]
abbrev fnLike : FuncId := 45
theorem pc_EqualR (l m : List Rl) (hl : nR l < 2305843009213693952) (hm2 : nR m < 2305843009213693952) (hr : ∀ r ∈ l, nI r.2 < 4611686018427387904) (hs : ∀ r ∈ m, nI r.2 < 4611686018427387904) :
    PC Try.prog T 44 [.v false [(C.sl (nR l) (rC l))], .v false [(C.sl (nR m) (rC m))], .fn fnLike] (ret1 (.st (vB (sameL2 l m)))) [] := by
  refine pc_of tok Try.func44 rfl (by rfl) ?_
  obtain ⟨j, hj⟩ : ∃ j : J, j = std Try.prog T := ⟨_, rfl⟩
  have hm : Try.prog.follows .mixedOrders = true := by kernel_rfl
  generalize y_intsOf : @intsOf = x_intsOf at *
  generalize y_rlsOf : @rlsOf = x_rlsOf at *
  generalize y_likeR : @likeR = x_likeR at *
  generalize y_idxR : @idxR = x_idxR at *
  generalize y_hasR : @hasR = x_hasR at *
  generalize y_rC : @rC = x_rC at *
  generalize y_nR : @nR = x_nR at *
  generalize y_sameL2 : @sameL2 = x_sameL2 at *
  generalize y_nI : @nI = x_nI at *
  (repeat' first | ((first | with_reducible refine tr_cut (fun h => ?_) (fun h => ?_) | refine aw_condj (by cbv) (fun h => ?_) (fun h => ?_)) <;> (try simp (disch := omega) only [hj, std, cmpI, cmpB, satB, Bool.not_eq_true, Bool.not_eq_false, decide_eq_true_eq, decide_eq_false_iff_not, beq_iff_eq, bne_iff_ne, bne_eq_false_iff_eq, beq_eq_false_iff_ne, ne_eq, reduceCtorEq, not_true_eq_false, not_false_eq_true, pl0, if_true, cmpS_eq, cmpS_neq, Bool.not_eq_eq_eq_not, Bool.not_true, Bool.not_false, Bool.not_eq_true', add64, sub64] at h) <;> (try (exfalso; omega))) | (with_reducible refine tr_alt (fun h => ?_) ?_ <;> (try (exfalso; omega))) | (with_reducible refine tr_ob ?_ ?_) | (with_reducible refine tr_done ?_) | (refine aw_tr hj tok (bookGk x_intsOf x_rlsOf x_likeR x_idxR x_hasR) (by cbv) ?_) | (refine aw_seq fun K hK => ?_) | (refine aw_tr1 hj tok (bookGk x_intsOf x_rlsOf x_likeR x_idxR x_hasR) (by cbv) ?_) | (refine aw_skip ?_) | (refine aw_block ?_) | (refine aw_exit ?_) | (refine aw_ret ⟨.inr rfl, ret_okj hj (by cbv) ?_ ?_⟩) | (refine aw_ret ?_) | (with_reducible refine th_n ?_) | (with_reducible refine th_r ?_) | (with_reducible refine th_x ?_) | (with_reducible refine blk_n ?_) | (with_reducible refine blk_r ?_) | (with_reducible refine blk_x ?_) | (with_reducible refine blk_y rfl ?_) | (refine ⟨.inr rfl, ret_okj hj (by cbv) ?_ ?_⟩) | (refine ⟨.inl rfl, ret_okj hj (by cbv) ?_ ?_⟩) | ((with_reducible refine ⟨_, by cbv, ?_, ?_⟩)) | (with_reducible apply_assumption -symm -exfalso only [*]))
  all_goals ((try subst y_intsOf); (try subst y_rlsOf); (try subst y_likeR); (try subst y_idxR); (try subst y_hasR); (try subst y_rC); (try subst y_nR); (try subst y_sameL2); (try subst y_nI))
  all_goals (try (repeat' first | with_reducible exact obl0 | with_reducible refine obl1 ?_ ?_))
  all_goals (try first | with_reducible exact True.intro | ((first | refine ob_le hj ?_ | refine ob_lei hj ?_ | refine ob_inb hj ?_ | refine ob_pos hj ?_ | refine ob_ne0 hj ?_ | refine ob_eqb hj ?_); (first | rfl | first | omega | (simp only [hj, std]; split <;> omega) | (simp (disch := omega) only [hj, std, cmpI, cmpB, satB, add64, sub64, ite0, pl0, pl2, pl3, sb0, if_true, if_false, eq_self] <;> omega) | (simp (disch := omega) [hj, std, cmpI, cmpB, satB, add64, sub64, ite0, pl0, pl2, pl3, sb0, if_true, if_false, eq_self] <;> omega))) | ((refine r1b ?_; exact sameL2_no (.inl (by omega)))))
  refine aw_lpj hj [(1, .keep), (2, .keep), (15, .keep), (16, .keep), (17, .keep)] [] (fun (i : Int) => stOf 32 [(1, .one (.c ((C.sl (nR m) (rC m))))), (2, .one (.fn fnLike [])), (15, .one (.c ((C.sl (nR l) (rC l))))), (16, .one (.c (vI (j.ofNat (nR l))))), (17, .one (.c (vI i)))] []) (fun (i : Int) => nR l - i.toNat) (fun (i : Int) => 0 ≤ i ∧ i ≤ nR l ∧ ∀ n : Nat, (n : Int) < i → rAt l n = rAt m n) (0) (by generalize @intsOf = x_intsOf; generalize @rlsOf = x_rlsOf; generalize @likeR = x_likeR; generalize @idxR = x_idxR; generalize @hasR = x_hasR; generalize @rC = x_rC; generalize @nR = x_nR; generalize @sameL2 = x_sameL2; generalize @nI = x_nI; cbv) ?_ (fun i hI => ?_)
  · exact ⟨by omega, by omega, fun n h => by omega⟩
  obtain ⟨i1, i2, i3⟩ := hI
  generalize y_intsOf : @intsOf = x_intsOf at *
  generalize y_rlsOf : @rlsOf = x_rlsOf at *
  generalize y_likeR : @likeR = x_likeR at *
  generalize y_idxR : @idxR = x_idxR at *
  generalize y_hasR : @hasR = x_hasR at *
  generalize y_rC : @rC = x_rC at *
  generalize y_nR : @nR = x_nR at *
  generalize y_sameL2 : @sameL2 = x_sameL2 at *
  generalize y_nI : @nI = x_nI at *
  (repeat' first | ((first | with_reducible refine tr_cut (fun h => ?_) (fun h => ?_) | refine aw_condj (by cbv) (fun h => ?_) (fun h => ?_)) <;> (try simp (disch := omega) only [hj, std, cmpI, cmpB, satB, Bool.not_eq_true, Bool.not_eq_false, decide_eq_true_eq, decide_eq_false_iff_not, beq_iff_eq, bne_iff_ne, bne_eq_false_iff_eq, beq_eq_false_iff_ne, ne_eq, reduceCtorEq, not_true_eq_false, not_false_eq_true, pl0, if_true, cmpS_eq, cmpS_neq, Bool.not_eq_eq_eq_not, Bool.not_true, Bool.not_false, Bool.not_eq_true', add64, sub64] at h) <;> (try (exfalso; omega))) | (with_reducible refine tr_alt (fun h => ?_) ?_ <;> (try (exfalso; omega))) | (with_reducible refine tr_ob ?_ ?_) | (with_reducible refine tr_done ?_) | (refine aw_tr hj tok (bookGk x_intsOf x_rlsOf x_likeR x_idxR x_hasR) (by cbv) ?_) | (refine aw_seq fun K hK => ?_) | (refine aw_tr1 hj tok (bookGk x_intsOf x_rlsOf x_likeR x_idxR x_hasR) (by cbv) ?_) | (refine aw_skip ?_) | (refine aw_block ?_) | (refine aw_exit ?_) | (refine aw_ret ⟨.inr rfl, ret_okj hj (by cbv) ?_ ?_⟩) | (refine aw_ret ?_) | (with_reducible refine th_n ?_) | (with_reducible refine th_r ?_) | (with_reducible refine th_x ?_) | (with_reducible refine blk_n ?_) | (with_reducible refine blk_r ?_) | (with_reducible refine blk_x ?_) | (with_reducible refine blk_y rfl ?_) | (refine ⟨.inr rfl, ret_okj hj (by cbv) ?_ ?_⟩) | (refine ⟨.inl rfl, ret_okj hj (by cbv) ?_ ?_⟩) | ((with_reducible refine ⟨_, by cbv, ?_, ?_⟩)) | (with_reducible apply_assumption -symm -exfalso only [*]))
  all_goals ((try subst y_intsOf); (try subst y_rlsOf); (try subst y_likeR); (try subst y_idxR); (try subst y_hasR); (try subst y_rC); (try subst y_nR); (try subst y_sameL2); (try subst y_nI))
  all_goals (have nl := nR_eq l; have nm := nR_eq m)
  all_goals (try have q := ‹likeR _ _ = true›)
  all_goals (try have q := ‹likeR _ _ = false›)
  all_goals (try simp only [ite0, gi_rC, gcR, gc_rC, intsOf_iC, likeR_true, likeR_false] at q)
  all_goals (try (repeat' first | with_reducible exact obl0 | with_reducible refine obl1 ?_ ?_))
  all_goals (try first | with_reducible exact True.intro | (refine ob_pc hj ?_; (try rw [hj]); first | exact c_like (l := (rAt l i.toNat).2) (k := (rAt m i.toNat).2) (gn_rC _ _) (gc_rC _ _) (gn_rC _ _) (gc_rC _ _) (hr _ (rAt_mem l i (by omega) (by omega))) (hs _ (rAt_mem m i (by omega) (by omega)))) | (refine ob_pcn hj ?_; (try rw [hj]); first | exact c_like (l := (rAt l i.toNat).2) (k := (rAt m i.toNat).2) (gn_rC _ _) (gc_rC _ _) (gn_rC _ _) (gc_rC _ _) (hr _ (rAt_mem l i (by omega) (by omega))) (hs _ (rAt_mem m i (by omega) (by omega)))) | ((first | refine ob_le hj ?_ | refine ob_lei hj ?_ | refine ob_inb hj ?_ | refine ob_pos hj ?_ | refine ob_ne0 hj ?_ | refine ob_eqb hj ?_); (first | rfl | first | omega | (simp only [hj, std]; split <;> omega) | (simp (disch := omega) only [hj, std, cmpI, cmpB, satB, add64, sub64, ite0, pl0, pl2, pl3, sb0, if_true, if_false, eq_self, rC_len] <;> omega) | (simp (disch := omega) [hj, std, cmpI, cmpB, satB, add64, sub64, ite0, pl0, pl2, pl3, sb0, if_true, if_false, eq_self, rC_len] <;> omega))) | ((refine ob_ok hj ?_; simp only [hj, std, ite0]; first | exact ok_rC1 (by omega) | exact ok_rC0 (by omega))) | ((refine r1b ?_; exact sameL2_no (.inr ⟨_, q⟩))) | ((refine r1b ?_; exact sameL2_yes (by omega) fun n hn => i3 n (by omega))) | ((simp (disch := omega) only [hj, std, add64]; first | omega | (refine ⟨by omega, by omega, fun n hn => ?_⟩; by_cases e : (n : Int) < i; exact i3 n e; obtain rfl : n = i.toNat := (by omega); exact q))))
end Go.Proofs.Ytgimfjmigoibgaa.A
/- Grammars: two that are the same; the law GramValid. -/
set_option linter.unusedSimpArgs false
set_option linter.unusedVariables false
set_option maxRecDepth 100000
set_option maxHeartbeats 4000000
namespace Go.Proofs.Ytgimfjmigoibgaa.A
open Go
abbrev sameG (a1 b1 : List ByteArray) (c1 : List Rl) (a2 b2 : List ByteArray) (c2 : List Rl) : Bool := sameS a1 a2 && (sameS b1 b2 && sameL2 c1 c2)
def sameGr (a1 b1 : List ByteArray) (c1 : List Rl) (a2 b2 : List ByteArray) (c2 : List Rl) : Bool := sameG a1 b1 c1 a2 b2 c2
theorem sameGr_iff {a1 b1 a2 b2 : List ByteArray} {c1 c2 : List Rl} : sameGr a1 b1 c1 a2 b2 c2 = true ↔ a1 = a2 ∧ b1 = b2 ∧ c1 = c2 := by
  unfold sameGr sameG; rw [Bool.and_eq_true, Bool.and_eq_true, sameS_iff, sameS_iff, sameL2_iff]
theorem sameGr_no {a1 b1 a2 b2 : List ByteArray} {c1 c2 : List Rl} (h : ¬ (a1 = a2 ∧ b1 = b2 ∧ c1 = c2)) : sameGr a1 b1 c1 a2 b2 c2 = false := by
  cases e : sameGr a1 b1 c1 a2 b2 c2 with
  | false => rfl
  | true => exact absurd (sameGr_iff.1 e) h
def bookSm (x_intsOf : List C → List Int) (x_rlsOf : List C → List Rl) (x_sameI : List Int → List Int → Bool) (x_sameL2 : List Rl → List Rl → Bool) (x_strsOf : List C → List ByteArray) (x_sameS : List ByteArray → List ByteArray → Bool) : Book := fun f xs => match f, xs with
  | 43, [.v false [.sl _ l], .v false [.sl _ m]] => some (ret1 (.st (vB (x_sameS (x_strsOf l) (x_strsOf m)))))
  | 44, [.v false [.sl _ l], .v false [.sl _ m], .fn 45] => some (ret1 (.st (vB (x_sameL2 (x_rlsOf l) (x_rlsOf m)))))
  | 46, [.v false [.sl _ cs], .v false [.sl _ ds]] => some (ret1 (.st (vB (x_sameI (x_intsOf cs) (x_intsOf ds)))))
  | _, _ => none
theorem c_EqS {l m : List ByteArray} (hl : nS l < 4611686018427387904) (hm2 : nS m < 4611686018427387904) : pc 43 [.v false [(C.sl (nS l) (sC l))], .v false [(C.sl (nS m) (sC m))]] (ret1 (.st (vB (sameS (strsOf (sC l)) (strsOf (sC m)))))) := by
  rw [strsOf_sC, strsOf_sC]
  exact ⟨enters Try.func43 (by kernel_rfl) (by kernel_rfl), pc_EqualS l m hl hm2⟩
theorem c_EqR {l m : List Rl} (hl : nR l < 2305843009213693952) (hm2 : nR m < 2305843009213693952) (hr : ∀ r ∈ l, nI r.2 < 4611686018427387904) (hs : ∀ r ∈ m, nI r.2 < 4611686018427387904) : pc 44 [.v false [(C.sl (nR l) (rC l))], .v false [(C.sl (nR m) (rC m))], .fn 45] (ret1 (.st (vB (sameL2 (rlsOf (rC l)) (rlsOf (rC m)))))) := by
  rw [rlsOf_rC, rlsOf_rC]
  exact ⟨enters Try.func44 (by kernel_rfl) (by kernel_rfl), pc_EqualR l m hl hm2 hr hs⟩
theorem pc_Same (a1 b1 : List ByteArray) (c1 : List Rl) (a2 b2 : List ByteArray) (c2 : List Rl) (h1 : GrL a1 b1 c1) (h2 : GrL a2 b2 c2) :
    PC Try.prog T 20 [.v true [(C.sl (nS a1) (sC a1)), (C.sl (nS b1) (sC b1)), (C.sl (nR c1) (rC c1))], .v true [(C.sl (nS a2) (sC a2)), (C.sl (nS b2) (sC b2)), (C.sl (nR c2) (rC c2))]] (ret1 (.st (vB (sameGr a1 b1 c1 a2 b2 c2)))) [] := by
  refine pc_of tok Try.func20 rfl (by rfl) ?_
  have x1 := strsOf_sC a1
  have x2 := strsOf_sC a2
  have x3 := strsOf_sC b1
  have x4 := strsOf_sC b2
  have x5 := rlsOf_rC c1
  have x6 := rlsOf_rC c2
  have e : sameGr a1 b1 c1 a2 b2 c2 = (sameS a1 a2 && (sameS b1 b2 && sameL2 c1 c2)) := rfl
  obtain ⟨j, hj⟩ : ∃ j : J, j = std Try.prog T := ⟨_, rfl⟩
  have hm : Try.prog.follows .mixedOrders = true := by kernel_rfl
  generalize y_intsOf : @intsOf = x_intsOf at *
  generalize y_rlsOf : @rlsOf = x_rlsOf at *
  generalize y_sameI : @sameI = x_sameI at *
  generalize y_sameL2 : @sameL2 = x_sameL2 at *
  generalize y_strsOf : @strsOf = x_strsOf at *
  generalize y_sameS : @sameS = x_sameS at *
  generalize y_rC : @rC = x_rC at *
  generalize y_nR : @nR = x_nR at *
  generalize y_sameGr : @sameGr = x_sameGr at *
  generalize y_sC : @sC = x_sC at *
  generalize y_nS : @nS = x_nS at *
  (repeat' first | ((first | with_reducible refine tr_cut (fun h => ?_) (fun h => ?_) | refine aw_condj (by cbv) (fun h => ?_) (fun h => ?_)) <;> (try simp (disch := omega) only [hj, std, cmpI, cmpB, satB, Bool.not_eq_true, Bool.not_eq_false, decide_eq_true_eq, decide_eq_false_iff_not, beq_iff_eq, bne_iff_ne, bne_eq_false_iff_eq, beq_eq_false_iff_ne, ne_eq, reduceCtorEq, not_true_eq_false, not_false_eq_true, pl0, if_true, cmpS_eq, cmpS_neq, Bool.not_eq_eq_eq_not, Bool.not_true, Bool.not_false, Bool.not_eq_true', x1, x2, x3, x4, x5, x6, add64, sub64] at h) <;> (try (exfalso; omega))) | (with_reducible refine tr_alt (fun h => ?_) ?_ <;> (try (exfalso; omega))) | (with_reducible refine tr_ob ?_ ?_) | (with_reducible refine tr_done ?_) | (refine aw_tr hj tok (bookSm x_intsOf x_rlsOf x_sameI x_sameL2 x_strsOf x_sameS) (by cbv) ?_) | (refine aw_seq fun K hK => ?_) | (refine aw_tr1 hj tok (bookSm x_intsOf x_rlsOf x_sameI x_sameL2 x_strsOf x_sameS) (by cbv) ?_) | (refine aw_skip ?_) | (refine aw_block ?_) | (refine aw_exit ?_) | (refine aw_ret ⟨.inr rfl, ret_okj hj (by cbv) ?_ ?_⟩) | (refine aw_ret ?_) | (with_reducible refine th_n ?_) | (with_reducible refine th_r ?_) | (with_reducible refine th_x ?_) | (with_reducible refine blk_n ?_) | (with_reducible refine blk_r ?_) | (with_reducible refine blk_x ?_) | (with_reducible refine blk_y rfl ?_) | (refine ⟨.inr rfl, ret_okj hj (by cbv) ?_ ?_⟩) | (refine ⟨.inl rfl, ret_okj hj (by cbv) ?_ ?_⟩) | (with_reducible apply_assumption -symm -exfalso only [*]))
  all_goals ((try subst y_intsOf); (try subst y_rlsOf); (try subst y_sameI); (try subst y_sameL2); (try subst y_strsOf); (try subst y_sameS); (try subst y_rC); (try subst y_nR); (try subst y_sameGr); (try subst y_sC); (try subst y_nS))
  all_goals (try have q1 := ‹sameS a1 a2 = true›)
  all_goals (try have q1 := ‹sameS a1 a2 = false›)
  all_goals (try have q2 := ‹sameS b1 b2 = true›)
  all_goals (try have q2 := ‹sameS b1 b2 = false›)
  all_goals (try (repeat' first | with_reducible exact obl0 | with_reducible refine obl1 ?_ ?_))
  all_goals (try first | with_reducible exact True.intro | (refine ob_pc hj ?_; (try rw [hj]); first | exact c_EqS h1.n h2.n | exact c_EqS h1.t h2.t | exact c_EqR h1.r h2.r h1.i h2.i) | (refine ob_pcn hj ?_; (try rw [hj]); first | exact c_EqS h1.n h2.n | exact c_EqS h1.t h2.t | exact c_EqR h1.r h2.r h1.i h2.i) | ((first | refine ob_le hj ?_ | refine ob_lei hj ?_ | refine ob_inb hj ?_ | refine ob_pos hj ?_ | refine ob_ne0 hj ?_ | refine ob_eqb hj ?_); (first | rfl | first | omega | (simp only [hj, std]; split <;> omega) | (simp (disch := omega) only [hj, std, cmpI, cmpB, satB, add64, sub64, ite0, pl0, pl2, pl3, sb0, if_true, if_false, eq_self] <;> omega) | (simp (disch := omega) [hj, std, cmpI, cmpB, satB, add64, sub64, ite0, pl0, pl2, pl3, sb0, if_true, if_false, eq_self] <;> omega))) | ((refine r1b ?_; (try simp only [x1, x2, x3, x4, x5, x6]); rw [e, q1, q2]; rfl)) | ((refine r1b ?_; (try simp only [x1, x2, x3, x4, x5, x6]); rw [e, q1]; rfl)))
theorem pc_Same14 (a1 b1 : List ByteArray) (c1 : List Rl) (a2 b2 : List ByteArray) (c2 : List Rl) (h1 : GrL a1 b1 c1) (h2 : GrL a2 b2 c2) :
    PC Try.prog T 21 [.v true [(C.sl (nS a1) (sC a1)), (C.sl (nS b1) (sC b1)), (C.sl (nR c1) (rC c1))], .v true [(C.sl (nS a2) (sC a2)), (C.sl (nS b2) (sC b2)), (C.sl (nR c2) (rC c2))]] (ret1 (.st (vB (sameGr a1 b1 c1 a2 b2 c2)))) [] := by
  have g1 := h1.n; have g2 := h1.t; have g3 := h1.r; have g4 := h2.n; have g5 := h2.t; have g6 := h2.r
  have n1 := nS_eq a1; have n2 := nS_eq a2; have n3 := nS_eq b1; have n4 := nS_eq b2; have n5 := nR_eq c1; have n6 := nR_eq c2
  refine pc_of tok Try.func21 rfl (by rfl) ?_
  obtain ⟨j, hj⟩ : ∃ j : J, j = std Try.prog T := ⟨_, rfl⟩
  have hm : Try.prog.follows .mixedOrders = true := by kernel_rfl
  generalize y_intsOf : @intsOf = x_intsOf at *
  generalize y_rlsOf : @rlsOf = x_rlsOf at *
  generalize y_sameI : @sameI = x_sameI at *
  generalize y_sameL2 : @sameL2 = x_sameL2 at *
  generalize y_strsOf : @strsOf = x_strsOf at *
  generalize y_sameS : @sameS = x_sameS at *
  generalize y_rC : @rC = x_rC at *
  generalize y_nR : @nR = x_nR at *
  generalize y_sameGr : @sameGr = x_sameGr at *
  generalize y_sC : @sC = x_sC at *
  generalize y_nS : @nS = x_nS at *
  (repeat' first | ((first | with_reducible refine tr_cut (fun h => ?_) (fun h => ?_) | refine aw_condj (by cbv) (fun h => ?_) (fun h => ?_)) <;> (try simp (disch := omega) only [hj, std, cmpI, cmpB, satB, Bool.not_eq_true, Bool.not_eq_false, decide_eq_true_eq, decide_eq_false_iff_not, beq_iff_eq, bne_iff_ne, bne_eq_false_iff_eq, beq_eq_false_iff_ne, ne_eq, reduceCtorEq, not_true_eq_false, not_false_eq_true, pl0, if_true, cmpS_eq, cmpS_neq, Bool.not_eq_eq_eq_not, Bool.not_true, Bool.not_false, Bool.not_eq_true', add64, sub64] at h) <;> (try (exfalso; omega))) | (with_reducible refine tr_alt (fun h => ?_) ?_ <;> (try (exfalso; omega))) | (with_reducible refine tr_ob ?_ ?_) | (with_reducible refine tr_done ?_) | (refine aw_tr hj tok (bookSm x_intsOf x_rlsOf x_sameI x_sameL2 x_strsOf x_sameS) (by cbv) ?_) | (refine aw_seq fun K hK => ?_) | (refine aw_tr1 hj tok (bookSm x_intsOf x_rlsOf x_sameI x_sameL2 x_strsOf x_sameS) (by cbv) ?_) | (refine aw_skip ?_) | (refine aw_block ?_) | (refine aw_exit ?_) | (refine aw_ret ⟨.inr rfl, ret_okj hj (by cbv) ?_ ?_⟩) | (refine aw_ret ?_) | (with_reducible refine th_n ?_) | (with_reducible refine th_r ?_) | (with_reducible refine th_x ?_) | (with_reducible refine blk_n ?_) | (with_reducible refine blk_r ?_) | (with_reducible refine blk_x ?_) | (with_reducible refine blk_y rfl ?_) | (refine ⟨.inr rfl, ret_okj hj (by cbv) ?_ ?_⟩) | (refine ⟨.inl rfl, ret_okj hj (by cbv) ?_ ?_⟩) | ((with_reducible refine ⟨_, by cbv, ?_, ?_⟩)) | (with_reducible apply_assumption -symm -exfalso only [*]))
  all_goals ((try subst y_intsOf); (try subst y_rlsOf); (try subst y_sameI); (try subst y_sameL2); (try subst y_strsOf); (try subst y_sameS); (try subst y_rC); (try subst y_nR); (try subst y_sameGr); (try subst y_sC); (try subst y_nS))
  all_goals (try (repeat' first | with_reducible exact obl0 | with_reducible refine obl1 ?_ ?_))
  all_goals (try first | with_reducible exact True.intro | ((first | refine ob_le hj ?_ | refine ob_lei hj ?_ | refine ob_inb hj ?_ | refine ob_pos hj ?_ | refine ob_ne0 hj ?_ | refine ob_eqb hj ?_); (first | rfl | first | omega | (simp only [hj, std]; split <;> omega) | (simp (disch := omega) only [hj, std, cmpI, cmpB, satB, add64, sub64, ite0, pl0, pl2, pl3, sb0, if_true, if_false, eq_self] <;> omega) | (simp (disch := omega) [hj, std, cmpI, cmpB, satB, add64, sub64, ite0, pl0, pl2, pl3, sb0, if_true, if_false, eq_self] <;> omega))) | ((refine r1b ?_; refine sameGr_no fun q => ?_; obtain ⟨rfl, rfl, rfl⟩ := q; omega)))
  refine aw_lpj hj [(2, .keep), (3, .keep), (5, .keep)] [2, 3] (fun (i : Int) => stOf 105 [(2, .one (.ptr 2 0)), (3, .one (.ptr 3 0)), (5, .one (.c (vI i)))] [(2, .box [.st ((C.sl (nS a1) (sC a1))), .st ((C.sl (nS b1) (sC b1))), .st ((C.sl (nR c1) (rC c1)))]), (3, .box [.st ((C.sl (nS a2) (sC a2))), .st ((C.sl (nS b2) (sC b2))), .st ((C.sl (nR c2) (rC c2)))])]) (fun (i : Int) => nS a1 - i.toNat) (fun (i : Int) => 0 ≤ i ∧ i ≤ nS a1 ∧ ∀ n : Nat, (n : Int) < i → sAt a1 n = sAt a2 n) (0) (by generalize @intsOf = x_intsOf; generalize @rlsOf = x_rlsOf; generalize @sameI = x_sameI; generalize @sameL2 = x_sameL2; generalize @strsOf = x_strsOf; generalize @sameS = x_sameS; generalize @rC = x_rC; generalize @nR = x_nR; generalize @sameGr = x_sameGr; generalize @sC = x_sC; generalize @nS = x_nS; cbv) ?_ (fun i hI => ?_)
  · exact ⟨by omega, by omega, fun n h => by omega⟩
  obtain ⟨i1, i2, i3⟩ := hI
  generalize y_intsOf : @intsOf = x_intsOf at *
  generalize y_rlsOf : @rlsOf = x_rlsOf at *
  generalize y_sameI : @sameI = x_sameI at *
  generalize y_sameL2 : @sameL2 = x_sameL2 at *
  generalize y_strsOf : @strsOf = x_strsOf at *
  generalize y_sameS : @sameS = x_sameS at *
  generalize y_rC : @rC = x_rC at *
  generalize y_nR : @nR = x_nR at *
  generalize y_sameGr : @sameGr = x_sameGr at *
  generalize y_sC : @sC = x_sC at *
  generalize y_nS : @nS = x_nS at *
  (repeat' first | ((first | with_reducible refine tr_cut (fun h => ?_) (fun h => ?_) | refine aw_condj (by cbv) (fun h => ?_) (fun h => ?_)) <;> (try simp (disch := omega) only [hj, std, cmpI, cmpB, satB, Bool.not_eq_true, Bool.not_eq_false, decide_eq_true_eq, decide_eq_false_iff_not, beq_iff_eq, bne_iff_ne, bne_eq_false_iff_eq, beq_eq_false_iff_ne, ne_eq, reduceCtorEq, not_true_eq_false, not_false_eq_true, pl0, if_true, cmpS_eq, cmpS_neq, Bool.not_eq_eq_eq_not, Bool.not_true, Bool.not_false, Bool.not_eq_true', gs_sC, add64, sub64] at h) <;> (try (exfalso; omega))) | (with_reducible refine tr_alt (fun h => ?_) ?_ <;> (try (exfalso; omega))) | (with_reducible refine tr_ob ?_ ?_) | (with_reducible refine tr_done ?_) | (refine aw_dr1 (id := 6) hj tok hm (bookSm x_intsOf x_rlsOf x_sameI x_sameL2 x_strsOf x_sameS) true [(0, false), (1, false), (2, false), (3, false), (4, false), (5, false), (6, false), (7, true), (8, true), (9, true), (10, true)] (by kernel_rfl) (by cbv) ?_) | (refine aw_dr (id := 6) hj tok hm (bookSm x_intsOf x_rlsOf x_sameI x_sameL2 x_strsOf x_sameS) true [(0, false), (1, false), (2, false), (3, false), (4, false), (5, false), (6, false), (7, true), (8, true), (9, true), (10, true)] (by kernel_rfl) (by cbv) ?_) | (refine aw_tr hj tok (bookSm x_intsOf x_rlsOf x_sameI x_sameL2 x_strsOf x_sameS) (by cbv) ?_) | (refine aw_seq fun K hK => ?_) | (refine aw_tr1 hj tok (bookSm x_intsOf x_rlsOf x_sameI x_sameL2 x_strsOf x_sameS) (by cbv) ?_) | (refine aw_skip ?_) | (refine aw_block ?_) | (refine aw_exit ?_) | (refine aw_ret ⟨.inr rfl, ret_okj hj (by cbv) ?_ ?_⟩) | (refine aw_ret ?_) | (with_reducible refine th_n ?_) | (with_reducible refine th_r ?_) | (with_reducible refine th_x ?_) | (with_reducible refine blk_n ?_) | (with_reducible refine blk_r ?_) | (with_reducible refine blk_x ?_) | (with_reducible refine blk_y rfl ?_) | (refine ⟨.inr rfl, ret_okj hj (by cbv) ?_ ?_⟩) | (refine ⟨.inl rfl, ret_okj hj (by cbv) ?_ ?_⟩) | ((with_reducible refine ⟨_, by cbv, ?_, ?_⟩)) | (with_reducible apply_assumption -symm -exfalso only [*]))
  all_goals ((try subst y_intsOf); (try subst y_rlsOf); (try subst y_sameI); (try subst y_sameL2); (try subst y_strsOf); (try subst y_sameS); (try subst y_rC); (try subst y_nR); (try subst y_sameGr); (try subst y_sC); (try subst y_nS))
  all_goals (try have q := ‹gs (cellAt (sC a1) _) = _›)
  all_goals (try have q := ‹¬ gs (cellAt (sC a1) _) = _›)
  all_goals (try rw [gs_sC, gs_sC] at q)
  all_goals (try (repeat' first | with_reducible exact obl0 | with_reducible refine obl1 ?_ ?_))
  all_goals (try first | with_reducible exact True.intro | ((first | refine ob_le hj ?_ | refine ob_lei hj ?_ | refine ob_inb hj ?_ | refine ob_pos hj ?_ | refine ob_ne0 hj ?_ | refine ob_eqb hj ?_); (first | rfl | first | omega | (simp only [hj, std]; split <;> omega) | (simp (disch := omega) only [hj, std, cmpI, cmpB, satB, add64, sub64, ite0, pl0, pl2, pl3, sb0, if_true, if_false, eq_self, sC_len] <;> omega) | (simp (disch := omega) [hj, std, cmpI, cmpB, satB, add64, sub64, ite0, pl0, pl2, pl3, sb0, if_true, if_false, eq_self, sC_len] <;> omega))) | ((refine ob_ok hj ?_; simp only [hj, std, ite0]; exact ok_sC (by omega))) | ((refine r1b ?_; refine sameGr_no fun z => ?_; obtain ⟨rfl, rfl, rfl⟩ := z; exact q rfl)) | ((simp (disch := omega) only [hj, std, add64]; first | omega | (refine ⟨by omega, by omega, fun n hn => ?_⟩; by_cases e : (n : Int) < i; exact i3 n e; obtain rfl : n = i.toNat := (by omega); exact q))))
  have hA : a1 = a2 := ext_sAt (by omega) fun n hn => i3 n (by omega)
  clear i3
  refine aw_lpj hj [(2, .keep), (3, .keep), (6, .keep)] [2, 3] (fun (k : Int) => stOf 105 [(2, .one (.ptr 2 0)), (3, .one (.ptr 3 0)), (6, .one (.c (vI k)))] [(2, .box [.st ((C.sl (nS a1) (sC a1))), .st ((C.sl (nS b1) (sC b1))), .st ((C.sl (nR c1) (rC c1)))]), (3, .box [.st ((C.sl (nS a2) (sC a2))), .st ((C.sl (nS b2) (sC b2))), .st ((C.sl (nR c2) (rC c2)))])]) (fun (k : Int) => nS b1 - k.toNat) (fun (k : Int) => 0 ≤ k ∧ k ≤ nS b1 ∧ ∀ n : Nat, (n : Int) < k → sAt b1 n = sAt b2 n) (0) (by generalize @intsOf = x_intsOf; generalize @rlsOf = x_rlsOf; generalize @sameI = x_sameI; generalize @sameL2 = x_sameL2; generalize @strsOf = x_strsOf; generalize @sameS = x_sameS; generalize @rC = x_rC; generalize @nR = x_nR; generalize @sameGr = x_sameGr; generalize @sC = x_sC; generalize @nS = x_nS; cbv) ?_ (fun k hI => ?_)
  · exact ⟨by omega, by omega, fun n h => by omega⟩
  obtain ⟨k1, k2, k3⟩ := hI
  generalize y_intsOf : @intsOf = x_intsOf at *
  generalize y_rlsOf : @rlsOf = x_rlsOf at *
  generalize y_sameI : @sameI = x_sameI at *
  generalize y_sameL2 : @sameL2 = x_sameL2 at *
  generalize y_strsOf : @strsOf = x_strsOf at *
  generalize y_sameS : @sameS = x_sameS at *
  generalize y_rC : @rC = x_rC at *
  generalize y_nR : @nR = x_nR at *
  generalize y_sameGr : @sameGr = x_sameGr at *
  generalize y_sC : @sC = x_sC at *
  generalize y_nS : @nS = x_nS at *
  (repeat' first | ((first | with_reducible refine tr_cut (fun h => ?_) (fun h => ?_) | refine aw_condj (by cbv) (fun h => ?_) (fun h => ?_)) <;> (try simp (disch := omega) only [hj, std, cmpI, cmpB, satB, Bool.not_eq_true, Bool.not_eq_false, decide_eq_true_eq, decide_eq_false_iff_not, beq_iff_eq, bne_iff_ne, bne_eq_false_iff_eq, beq_eq_false_iff_ne, ne_eq, reduceCtorEq, not_true_eq_false, not_false_eq_true, pl0, if_true, cmpS_eq, cmpS_neq, Bool.not_eq_eq_eq_not, Bool.not_true, Bool.not_false, Bool.not_eq_true', gs_sC, add64, sub64] at h) <;> (try (exfalso; omega))) | (with_reducible refine tr_alt (fun h => ?_) ?_ <;> (try (exfalso; omega))) | (with_reducible refine tr_ob ?_ ?_) | (with_reducible refine tr_done ?_) | (refine aw_dr1 (id := 11) hj tok hm (bookSm x_intsOf x_rlsOf x_sameI x_sameL2 x_strsOf x_sameS) true [(0, false), (1, false), (2, false), (3, false), (4, false), (5, false), (6, false), (7, true), (8, true), (9, true), (10, true)] (by kernel_rfl) (by cbv) ?_) | (refine aw_dr (id := 11) hj tok hm (bookSm x_intsOf x_rlsOf x_sameI x_sameL2 x_strsOf x_sameS) true [(0, false), (1, false), (2, false), (3, false), (4, false), (5, false), (6, false), (7, true), (8, true), (9, true), (10, true)] (by kernel_rfl) (by cbv) ?_) | (refine aw_tr hj tok (bookSm x_intsOf x_rlsOf x_sameI x_sameL2 x_strsOf x_sameS) (by cbv) ?_) | (refine aw_seq fun K hK => ?_) | (refine aw_tr1 hj tok (bookSm x_intsOf x_rlsOf x_sameI x_sameL2 x_strsOf x_sameS) (by cbv) ?_) | (refine aw_skip ?_) | (refine aw_block ?_) | (refine aw_exit ?_) | (refine aw_ret ⟨.inr rfl, ret_okj hj (by cbv) ?_ ?_⟩) | (refine aw_ret ?_) | (with_reducible refine th_n ?_) | (with_reducible refine th_r ?_) | (with_reducible refine th_x ?_) | (with_reducible refine blk_n ?_) | (with_reducible refine blk_r ?_) | (with_reducible refine blk_x ?_) | (with_reducible refine blk_y rfl ?_) | (refine ⟨.inr rfl, ret_okj hj (by cbv) ?_ ?_⟩) | (refine ⟨.inl rfl, ret_okj hj (by cbv) ?_ ?_⟩) | ((with_reducible refine ⟨_, by cbv, ?_, ?_⟩)) | (with_reducible apply_assumption -symm -exfalso only [*]))
  all_goals ((try subst y_intsOf); (try subst y_rlsOf); (try subst y_sameI); (try subst y_sameL2); (try subst y_strsOf); (try subst y_sameS); (try subst y_rC); (try subst y_nR); (try subst y_sameGr); (try subst y_sC); (try subst y_nS))
  all_goals (try have q := ‹gs (cellAt (sC b1) _) = _›)
  all_goals (try have q := ‹¬ gs (cellAt (sC b1) _) = _›)
  all_goals (try rw [gs_sC, gs_sC] at q)
  all_goals (try (repeat' first | with_reducible exact obl0 | with_reducible refine obl1 ?_ ?_))
  all_goals (try first | with_reducible exact True.intro | ((first | refine ob_le hj ?_ | refine ob_lei hj ?_ | refine ob_inb hj ?_ | refine ob_pos hj ?_ | refine ob_ne0 hj ?_ | refine ob_eqb hj ?_); (first | rfl | first | omega | (simp only [hj, std]; split <;> omega) | (simp (disch := omega) only [hj, std, cmpI, cmpB, satB, add64, sub64, ite0, pl0, pl2, pl3, sb0, if_true, if_false, eq_self, sC_len] <;> omega) | (simp (disch := omega) [hj, std, cmpI, cmpB, satB, add64, sub64, ite0, pl0, pl2, pl3, sb0, if_true, if_false, eq_self, sC_len] <;> omega))) | ((refine ob_ok hj ?_; simp only [hj, std, ite0]; exact ok_sC (by omega))) | ((refine r1b ?_; refine sameGr_no fun z => ?_; obtain ⟨z1, z2, z3⟩ := z; rw [z2] at q; exact q rfl)) | ((simp (disch := omega) only [hj, std, add64]; first | omega | (refine ⟨by omega, by omega, fun n hn => ?_⟩; by_cases e : (n : Int) < k; exact k3 n e; obtain rfl : n = k.toNat := (by omega); exact q))))
  have hB : b1 = b2 := ext_sAt (by omega) fun n hn => k3 n (by omega)
  clear k3
  refine aw_lpj hj [(2, .keep), (3, .keep), (7, .keep)] [2, 3] (fun (m : Int) => stOf 105 [(2, .one (.ptr 2 0)), (3, .one (.ptr 3 0)), (7, .one (.c (vI m)))] [(2, .box [.st ((C.sl (nS a1) (sC a1))), .st ((C.sl (nS b1) (sC b1))), .st ((C.sl (nR c1) (rC c1)))]), (3, .box [.st ((C.sl (nS a2) (sC a2))), .st ((C.sl (nS b2) (sC b2))), .st ((C.sl (nR c2) (rC c2)))])]) (fun (m : Int) => nR c1 - m.toNat) (fun (m : Int) => 0 ≤ m ∧ m ≤ nR c1 ∧ ∀ n : Nat, (n : Int) < m → rAt c1 n = rAt c2 n) (0) (by generalize @intsOf = x_intsOf; generalize @rlsOf = x_rlsOf; generalize @sameI = x_sameI; generalize @sameL2 = x_sameL2; generalize @strsOf = x_strsOf; generalize @sameS = x_sameS; generalize @rC = x_rC; generalize @nR = x_nR; generalize @sameGr = x_sameGr; generalize @sC = x_sC; generalize @nS = x_nS; cbv) ?_ (fun m hI => ?_)
  · exact ⟨by omega, by omega, fun n h => by omega⟩
  obtain ⟨m1, m2, m3⟩ := hI
  generalize y_intsOf : @intsOf = x_intsOf at *
  generalize y_rlsOf : @rlsOf = x_rlsOf at *
  generalize y_sameI : @sameI = x_sameI at *
  generalize y_sameL2 : @sameL2 = x_sameL2 at *
  generalize y_strsOf : @strsOf = x_strsOf at *
  generalize y_sameS : @sameS = x_sameS at *
  generalize y_rC : @rC = x_rC at *
  generalize y_nR : @nR = x_nR at *
  generalize y_sameGr : @sameGr = x_sameGr at *
  generalize y_sC : @sC = x_sC at *
  generalize y_nS : @nS = x_nS at *
  (repeat' first | ((first | with_reducible refine tr_cut (fun h => ?_) (fun h => ?_) | refine aw_condj (by cbv) (fun h => ?_) (fun h => ?_)) <;> (try simp (disch := omega) only [hj, std, cmpI, cmpB, satB, Bool.not_eq_true, Bool.not_eq_false, decide_eq_true_eq, decide_eq_false_iff_not, beq_iff_eq, bne_iff_ne, bne_eq_false_iff_eq, beq_eq_false_iff_ne, ne_eq, reduceCtorEq, not_true_eq_false, not_false_eq_true, pl0, if_true, cmpS_eq, cmpS_neq, Bool.not_eq_eq_eq_not, Bool.not_true, Bool.not_false, Bool.not_eq_true', ite0, add64, sub64] at h) <;> (try (exfalso; omega))) | (with_reducible refine tr_alt (fun h => ?_) ?_ <;> (try (exfalso; omega))) | (with_reducible refine tr_ob ?_ ?_) | (with_reducible refine tr_done ?_) | (refine aw_dr1 (id := 16) hj tok hm (bookSm x_intsOf x_rlsOf x_sameI x_sameL2 x_strsOf x_sameS) true [(0, false), (1, false), (2, false), (3, false), (4, false), (5, false), (6, false), (7, false), (8, true), (9, true), (10, true), (11, true), (12, true), (13, true), (14, false), (15, false), (16, false), (17, false), (18, false), (19, false), (20, false), (21, false), (22, true), (23, true), (24, true), (25, true), (26, true), (27, true), (28, true)] (by kernel_rfl) (by cbv) ?_) | (refine aw_dr (id := 16) hj tok hm (bookSm x_intsOf x_rlsOf x_sameI x_sameL2 x_strsOf x_sameS) true [(0, false), (1, false), (2, false), (3, false), (4, false), (5, false), (6, false), (7, false), (8, true), (9, true), (10, true), (11, true), (12, true), (13, true), (14, false), (15, false), (16, false), (17, false), (18, false), (19, false), (20, false), (21, false), (22, true), (23, true), (24, true), (25, true), (26, true), (27, true), (28, true)] (by kernel_rfl) (by cbv) ?_) | (refine aw_tr hj tok (bookSm x_intsOf x_rlsOf x_sameI x_sameL2 x_strsOf x_sameS) (by cbv) ?_) | (refine aw_seq fun K hK => ?_) | (refine aw_tr1 hj tok (bookSm x_intsOf x_rlsOf x_sameI x_sameL2 x_strsOf x_sameS) (by cbv) ?_) | (refine aw_skip ?_) | (refine aw_block ?_) | (refine aw_exit ?_) | (refine aw_ret ⟨.inr rfl, ret_okj hj (by cbv) ?_ ?_⟩) | (refine aw_ret ?_) | (with_reducible refine th_n ?_) | (with_reducible refine th_r ?_) | (with_reducible refine th_x ?_) | (with_reducible refine blk_n ?_) | (with_reducible refine blk_r ?_) | (with_reducible refine blk_x ?_) | (with_reducible refine blk_y rfl ?_) | (refine ⟨.inr rfl, ret_okj hj (by cbv) ?_ ?_⟩) | (refine ⟨.inl rfl, ret_okj hj (by cbv) ?_ ?_⟩) | ((with_reducible refine ⟨_, by cbv, ?_, ?_⟩)) | (with_reducible apply_assumption -symm -exfalso only [*]))
  all_goals ((try subst y_intsOf); (try subst y_rlsOf); (try subst y_sameI); (try subst y_sameL2); (try subst y_strsOf); (try subst y_sameS); (try subst y_rC); (try subst y_nR); (try subst y_sameGr); (try subst y_sC); (try subst y_nS))
  all_goals (try have q := ‹gi (cellAt (rC c1) _) = _›)
  all_goals (try have q := ‹¬ gi (cellAt (rC c1) _) = _›)
  all_goals (try rw [gi_rC, gi_rC] at q)
  all_goals (try have p := ‹sameI _ _ = true›)
  all_goals (try have p := ‹sameI _ _ = false›)
  all_goals (try simp only [ite0, gcR, gc_rC, intsOf_iC, sameI_iff, sameI_iff_not] at p)
  all_goals (try (repeat' first | with_reducible exact obl0 | with_reducible refine obl1 ?_ ?_))
  all_goals (try first | with_reducible exact True.intro | (refine ob_pc hj ?_; (try rw [hj]); first | exact c_SameR (a := (rAt c1 m.toNat).2) (b := (rAt c2 m.toNat).2) (gnR _ _) (gcR _ _) (gnR _ _) (gcR _ _) (h1.i _ (rAt_mem c1 m (by omega) (by omega))) (h2.i _ (rAt_mem c2 m (by omega) (by omega)))) | (refine ob_pcn hj ?_; (try rw [hj]); first | exact c_SameR (a := (rAt c1 m.toNat).2) (b := (rAt c2 m.toNat).2) (gnR _ _) (gcR _ _) (gnR _ _) (gcR _ _) (h1.i _ (rAt_mem c1 m (by omega) (by omega))) (h2.i _ (rAt_mem c2 m (by omega) (by omega)))) | ((first | refine ob_le hj ?_ | refine ob_lei hj ?_ | refine ob_inb hj ?_ | refine ob_pos hj ?_ | refine ob_ne0 hj ?_ | refine ob_eqb hj ?_); (first | rfl | first | omega | (simp only [hj, std]; split <;> omega) | (simp (disch := omega) only [hj, std, cmpI, cmpB, satB, add64, sub64, ite0, pl0, pl2, pl3, sb0, if_true, if_false, eq_self, rC_len] <;> omega) | (simp (disch := omega) [hj, std, cmpI, cmpB, satB, add64, sub64, ite0, pl0, pl2, pl3, sb0, if_true, if_false, eq_self, rC_len] <;> omega))) | ((refine ob_ok hj ?_; simp only [hj, std, ite0]; first | exact ok_rC1 (by omega) | exact ok_rC0 (by omega))) | ((refine r1b ?_; refine sameGr_no fun z => ?_; obtain ⟨z1, z2, z3⟩ := z; first | (rw [z3] at q; exact q rfl) | (rw [z3] at p; exact p rfl))) | ((refine r1b ?_; exact sameGr_iff.2 ⟨hA, hB, ext_rAt (by omega) fun n hn => m3 n (by omega)⟩)) | ((simp (disch := omega) only [hj, std, add64]; first | omega | (refine ⟨by omega, by omega, fun n hn => ?_⟩; by_cases e : (n : Int) < m; exact m3 n e; obtain rfl : n = m.toNat := (by omega); exact Prod.ext q p))))
theorem c_FewG {ns ts : List ByteArray} {rs : List Rl} (h1 : nS ns < 4611686018427387904) (h2 : nS ts < 4611686018427387904) (h3 : nR rs < 2305843009213693952) (h4 : ∀ r ∈ rs, nI r.2 < 4611686018427387904) (h5 : ∀ s ∈ ns, s.size < 4611686018427387904) (h6 : ∀ s ∈ ts, s.size < 4611686018427387904) : pc 17 [.v true [(C.sl (nS ns) (sC ns)), (C.sl (nS ts) (sC ts)), (C.sl (nR rs) (rC rs))]] (ret1 (.st (vI (fewG (strsOf (sC ns)) (strsOf (sC ts)) (rlsOf (rC rs)))))) := by
  rw [strsOf_sC, strsOf_sC, rlsOf_rC]
  exact ⟨enters Try.func17 (by kernel_rfl) (by kernel_rfl), pc_Few ns ts rs h1 h2 h3 h4 h5 h6⟩
theorem smlF {ns ts : List ByteArray} {rs : List Rl} (h : ¬ fewG ns ts rs = 0) : Sml ns ts rs := by
  obtain ⟨h1, h2, h3, h4, h5, h6⟩ := fewG_yes h
  exact ⟨by omega, by omega, by omega, fun r hr => by have := h4 r hr; omega, fun s hs => by have := h5 s hs; omega, fun s hs => by have := h6 s hs; omega⟩
theorem c_V14 {ns ts : List ByteArray} {rs : List Rl} (hS : Sml ns ts rs) : pc 19 [.v true [(C.sl (nS ns) (sC ns)), (C.sl (nS ts) (sC ts)), (C.sl (nR rs) (rC rs))]] (ret1 (.st (vB (validG (strsOf (sC ns)) (strsOf (sC ts)) (rlsOf (rC rs)))))) := by
  rw [strsOf_sC, strsOf_sC, rlsOf_rC]
  exact ⟨enters Try.func19 (by kernel_rfl) (by kernel_rfl), pc_Valid14 _ _ _ hS⟩
theorem c_VG {ns ts : List ByteArray} {rs : List Rl} (hS : Sml ns ts rs) : pc 15 [.v true [(C.sl (nS ns) (sC ns)), (C.sl (nS ts) (sC ts)), (C.sl (nR rs) (rC rs))]] (ret1 (.st (vB (validG (strsOf (sC ns)) (strsOf (sC ts)) (rlsOf (rC rs)))))) := by
  rw [strsOf_sC, strsOf_sC, rlsOf_rC]
  exact ⟨enters Try.func15 (by kernel_rfl) (by kernel_rfl), pc_ValidG _ _ _ hS⟩
theorem c_Sm {a1 b1 : List ByteArray} {c1 : List Rl} {a2 b2 : List ByteArray} {c2 : List Rl} (h1 : GrL a1 b1 c1) (h2 : GrL a2 b2 c2) : pc 20 [.v true [(C.sl (nS a1) (sC a1)), (C.sl (nS b1) (sC b1)), (C.sl (nR c1) (rC c1))], .v true [(C.sl (nS a2) (sC a2)), (C.sl (nS b2) (sC b2)), (C.sl (nR c2) (rC c2))]] (ret1 (.st (vB (sameGr (strsOf (sC a1)) (strsOf (sC b1)) (rlsOf (rC c1)) (strsOf (sC a2)) (strsOf (sC b2)) (rlsOf (rC c2)))))) := by
  simp only [strsOf_sC, rlsOf_rC]
  exact ⟨enters Try.func20 (by kernel_rfl) (by kernel_rfl), pc_Same _ _ _ _ _ _ h1 h2⟩
theorem c_Sm14 {a1 b1 : List ByteArray} {c1 : List Rl} {a2 b2 : List ByteArray} {c2 : List Rl} (h1 : GrL a1 b1 c1) (h2 : GrL a2 b2 c2) : pc 21 [.v true [(C.sl (nS a1) (sC a1)), (C.sl (nS b1) (sC b1)), (C.sl (nR c1) (rC c1))], .v true [(C.sl (nS a2) (sC a2)), (C.sl (nS b2) (sC b2)), (C.sl (nR c2) (rC c2))]] (ret1 (.st (vB (sameGr (strsOf (sC a1)) (strsOf (sC b1)) (rlsOf (rC c1)) (strsOf (sC a2)) (strsOf (sC b2)) (rlsOf (rC c2)))))) := by
  simp only [strsOf_sC, rlsOf_rC]
  exact ⟨enters Try.func21 (by kernel_rfl) (by kernel_rfl), pc_Same14 _ _ _ _ _ _ h1 h2⟩
def bookGV (x_rlsOf : List C → List Rl) (x_fewG : List ByteArray → List ByteArray → List Rl → Int) (x_ofR : List Rl → Int → List Int) (x_validG : List ByteArray → List ByteArray → List Rl → Bool) (x_sameGr : List ByteArray → List ByteArray → List Rl → List ByteArray → List ByteArray → List Rl → Bool) (x_iC : List Int → List C) (x_nI : List Int → Nat) (x_strsOf : List C → List ByteArray) : Book := fun f xs => match f, xs with
  | 17, [.v true [.sl _ a, .sl _ b, .sl _ c]] => some (ret1 (.st (vI (x_fewG (x_strsOf a) (x_strsOf b) (x_rlsOf c)))))
  | 14, [] => some (ret1 (.st (vB true)))
  | 18, [.v true [.sl _ _, .sl _ _, .sl _ cs], .v false [.val (.int .i64 a)]] => some (ret1 (.own intT (x_nI (x_ofR (x_rlsOf cs) a)) (x_iC (x_ofR (x_rlsOf cs) a))))
  | 19, [.v true [.sl _ a, .sl _ b, .sl _ c]] => some (ret1 (.st (vB (x_validG (x_strsOf a) (x_strsOf b) (x_rlsOf c)))))
  | 15, [.v true [.sl _ a, .sl _ b, .sl _ c]] => some (ret1 (.st (vB (x_validG (x_strsOf a) (x_strsOf b) (x_rlsOf c)))))
  | 20, [.v true [.sl _ a1, .sl _ b1, .sl _ c1], .v true [.sl _ a2, .sl _ b2, .sl _ c2]] => some (ret1 (.st (vB (x_sameGr (x_strsOf a1) (x_strsOf b1) (x_rlsOf c1) (x_strsOf a2) (x_strsOf b2) (x_rlsOf c2)))))
  | 21, [.v true [.sl _ a1, .sl _ b1, .sl _ c1], .v true [.sl _ a2, .sl _ b2, .sl _ c2]] => some (ret1 (.st (vB (x_sameGr (x_strsOf a1) (x_strsOf b1) (x_rlsOf c1) (x_strsOf a2) (x_strsOf b2) (x_rlsOf c2)))))
  | _, _ => none
theorem of_at {left : Int} {rs : List Rl} {i : Int} {m : Nat} {P : List Int} (h : P ++ ofGo left (rs.drop i.toNat) i = ofR rs left) (hP : P.length = m) (i0 : 0 ≤ i) (hi : i < nR rs) (hl : (rAt rs i.toNat).1 = left) : m < nI (ofR rs left) ∧ iAt (ofR rs left) m = i := by
  rw [rdrop_step rs i i0 hi, ofGo, if_pos hl] at h
  rw [nI_eq, ← h]
  refine ⟨by simp; omega, ?_⟩
  rw [iAt, List.getD_eq_getElem?_getD, List.getElem?_append_right (by omega)]
  simp [hP]
theorem pc_GramValidL (a1 b1 : List ByteArray) (c1 : List Rl) (a2 b2 : List ByteArray) (c2 : List Rl) (left : Int) (g1 : GrL a1 b1 c1) (g2 : GrL a2 b2 c2) (u1 : ∀ s ∈ a1, s.size < 4611686018427387904) (u2 : ∀ s ∈ b1, s.size < 4611686018427387904) (v1 : ∀ s ∈ a2, s.size < 4611686018427387904) (v2 : ∀ s ∈ b2, s.size < 4611686018427387904) :
    PC Try.prog T 7 [.v true [(C.sl (nS a1) (sC a1)), (C.sl (nS b1) (sC b1)), (C.sl (nR c1) (rC c1))], .v true [(C.sl (nS a2) (sC a2)), (C.sl (nS b2) (sC b2)), (C.sl (nR c2) (rC c2))], .v false [vI left]] (ret1 (.st (vB true))) [] := by
  refine pc_of tok Try.func7 rfl (by rfl) ?_
  have x1 := strsOf_sC a1
  have x2 := strsOf_sC a2
  have x3 := strsOf_sC b1
  have x4 := strsOf_sC b2
  have x5 := rlsOf_rC c1
  have x6 := rlsOf_rC c2
  obtain ⟨j, hj⟩ : ∃ j : J, j = std Try.prog T := ⟨_, rfl⟩
  have hm : Try.prog.follows .mixedOrders = true := by kernel_rfl
  generalize y_rlsOf : @rlsOf = x_rlsOf at *
  generalize y_fewG : @fewG = x_fewG at *
  generalize y_ofR : @ofR = x_ofR at *
  generalize y_validG : @validG = x_validG at *
  generalize y_sameGr : @sameGr = x_sameGr at *
  generalize y_iC : @iC = x_iC at *
  generalize y_nI : @nI = x_nI at *
  generalize y_strsOf : @strsOf = x_strsOf at *
  generalize y_rC : @rC = x_rC at *
  generalize y_nR : @nR = x_nR at *
  generalize y_sC : @sC = x_sC at *
  generalize y_nS : @nS = x_nS at *
  (repeat' first | ((first | with_reducible refine tr_cut (fun h => ?_) (fun h => ?_) | refine aw_condj (by cbv) (fun h => ?_) (fun h => ?_)) <;> (try simp (disch := omega) only [hj, std, cmpI, cmpB, satB, Bool.not_eq_true, Bool.not_eq_false, decide_eq_true_eq, decide_eq_false_iff_not, beq_iff_eq, bne_iff_ne, bne_eq_false_iff_eq, beq_eq_false_iff_ne, ne_eq, reduceCtorEq, not_true_eq_false, not_false_eq_true, pl0, if_true, cmpS_eq, cmpS_neq, Bool.not_eq_eq_eq_not, Bool.not_true, Bool.not_false, Bool.not_eq_true', x1, x2, x3, x4, x5, x6, add64, sub64] at h) <;> (try (exfalso; omega))) | (with_reducible refine tr_alt (fun h => ?_) ?_ <;> (try (exfalso; omega))) | (with_reducible refine tr_ob ?_ ?_) | (with_reducible refine tr_done ?_) | (refine aw_tr hj tok (bookGV x_rlsOf x_fewG x_ofR x_validG x_sameGr x_iC x_nI x_strsOf) (by cbv) ?_) | (refine aw_seq fun K hK => ?_) | (refine aw_tr1 hj tok (bookGV x_rlsOf x_fewG x_ofR x_validG x_sameGr x_iC x_nI x_strsOf) (by cbv) ?_) | (refine aw_skip ?_) | (refine aw_block ?_) | (refine aw_exit ?_) | (refine aw_ret ⟨.inr rfl, ret_okj hj (by cbv) ?_ ?_⟩) | (refine aw_ret ?_) | (with_reducible refine th_n ?_) | (with_reducible refine th_r ?_) | (with_reducible refine th_x ?_) | (with_reducible refine blk_n ?_) | (with_reducible refine blk_r ?_) | (with_reducible refine blk_x ?_) | (with_reducible refine blk_y rfl ?_) | (refine ⟨.inr rfl, ret_okj hj (by cbv) ?_ ?_⟩) | (refine ⟨.inl rfl, ret_okj hj (by cbv) ?_ ?_⟩) | ((with_reducible refine ⟨(_, _, _, _), by cbv, ?_, ?_⟩)) | ((with_reducible refine ⟨_, by cbv, ?_, ?_⟩)) | (with_reducible apply_assumption -symm -exfalso only [*]))
  all_goals ((try subst y_rlsOf); (try subst y_fewG); (try subst y_ofR); (try subst y_validG); (try subst y_sameGr); (try subst y_iC); (try subst y_nI); (try subst y_strsOf); (try subst y_rC); (try subst y_nR); (try subst y_sC); (try subst y_nS))
  all_goals (try have q1 := ‹¬ fewG a1 b1 c1 = 0›)
  all_goals (try have q2 := ‹¬ fewG a2 b2 c2 = 0›)
  all_goals (try have S1 := smlF q1)
  all_goals (try have S2 := smlF q2)
  all_goals (try have hc := S1.r)
  all_goals (try (repeat' first | with_reducible exact obl0 | with_reducible refine obl1 ?_ ?_))
  all_goals (try first | with_reducible exact True.intro | (refine ob_pc hj ?_; (try rw [hj]); first | exact c_FewG g1.n g1.t g1.r g1.i u1 u2 | exact c_FewG g2.n g2.t g2.r g2.i v1 v2 | exact c_awake14 | exact c_OfG hc) | (refine ob_pcn hj ?_; (try rw [hj]); first | exact c_FewG g1.n g1.t g1.r g1.i u1 u2 | exact c_FewG g2.n g2.t g2.r g2.i v1 v2 | exact c_awake14 | exact c_OfG hc) | ((first | refine ob_le hj ?_ | refine ob_lei hj ?_ | refine ob_inb hj ?_ | refine ob_pos hj ?_ | refine ob_ne0 hj ?_ | refine ob_eqb hj ?_); (first | rfl | first | omega | (simp only [hj, std]; split <;> omega) | (simp (disch := omega) only [hj, std, cmpI, cmpB, satB, add64, sub64, ite0, pl0, pl2, pl3, sb0, if_true, if_false, eq_self] <;> omega) | (simp (disch := omega) [hj, std, cmpI, cmpB, satB, add64, sub64, ite0, pl0, pl2, pl3, sb0, if_true, if_false, eq_self] <;> omega))) | (exact rfl) | ((refine ob_vals hj ?_; exact iC_vals _)))
  have hself : sameGr a1 b1 c1 a1 b1 c1 = true := sameGr_iff.2 ⟨rfl, rfl, rfl⟩
  refine aw_lpj hj [(2, .keep), (3, .keep), (4, .keep), (7, .own intT), (8, .keep), (9, .keep)] [3, 4] (fun (⟨i, m, un, uc⟩ : Int × Int × Nat × (List C)) => stOf 79 [(2, .one (.c (vI left))), (3, .one (.ptr 3 0)), (4, .one (.ptr 4 0)), (7, .one (.view 7 0)), (8, .one (.c (vI m))), (9, .one (.c (vI i)))] [(7, .loose [.own intT un uc]), (3, .box [.st ((C.sl (nS a1) (sC a1))), .st ((C.sl (nS b1) (sC b1))), .st ((C.sl (nR c1) (rC c1)))]), (4, .box [.st ((C.sl (nS a2) (sC a2))), .st ((C.sl (nS b2) (sC b2))), .st ((C.sl (nR c2) (rC c2)))])]) (fun (⟨i, m, un, uc⟩ : Int × Int × Nat × (List C)) => nR c1 - i.toNat) (fun (⟨i, m, un, uc⟩ : Int × Int × Nat × (List C)) => 0 ≤ i ∧ i ≤ nR c1 ∧ 0 ≤ m ∧ m ≤ i ∧ un = nI (ofR c1 left) ∧ uc = iC (ofR c1 left) ∧ ∃ P : List Int, P.length = m.toNat ∧ P ++ ofGo left (c1.drop i.toNat) i = ofR c1 left) ((0, 0, nI (ofR (rlsOf (rC c1)) left), iC (ofR (rlsOf (rC c1)) left))) (by generalize @rlsOf = x_rlsOf; generalize @fewG = x_fewG; generalize @ofR = x_ofR; generalize @validG = x_validG; generalize @sameGr = x_sameGr; generalize @iC = x_iC; generalize @nI = x_nI; generalize @strsOf = x_strsOf; generalize @rC = x_rC; generalize @nR = x_nR; generalize @sC = x_sC; generalize @nS = x_nS; cbv) ?_ (fun ⟨i, m, un, uc⟩ hI => ?_)
  · simp only [x5]
    exact ⟨by omega, by omega, by omega, by omega, trivial, trivial, [], rfl, rfl⟩
  obtain ⟨i1, i2, m1, m2, rfl, rfl, P, p1, p2⟩ := hI
  have hat := fun a b => of_at p2 p1 i1 a b
  have hend : ¬ i < nR c1 → m = nI (ofR c1 left) := fun h => by
    rw [rdrop_fin c1 i h] at p2
    have : P = ofR c1 left := by simpa [ofGo] using p2
    rw [nI_eq, ← this]; omega
  have hyes : i < nR c1 → (rAt c1 i.toNat).1 = left → P ++ [i] ++ ofGo left (c1.drop (i + 1).toNat) (i + 1) = ofR c1 left := fun h q => by rw [← p2, rdrop_step c1 i i1 h, ofGo, if_pos q]; simp
  have hno : i < nR c1 → ¬ (rAt c1 i.toNat).1 = left → P ++ ofGo left (c1.drop (i + 1).toNat) (i + 1) = ofR c1 left := fun h q => by rw [← p2, rdrop_step c1 i i1 h, ofGo, if_neg q]
  have hl : (iC (ofR c1 left)).length = nI (ofR c1 left) := iC_len _
  have nl := nI_eq (ofR c1 left)
  have e1 : gi (cellAt (rC c1) (i.toNat * 2)) = (rAt c1 i.toNat).1 := gi_rC _ _
  have e2 : gi (cellAt (iC (ofR c1 left)) m.toNat) = iAt (ofR c1 left) m.toNat := gi_iC _ _
  have nr := nR_eq c1
  generalize y_rlsOf : @rlsOf = x_rlsOf at *
  generalize y_fewG : @fewG = x_fewG at *
  generalize y_ofR : @ofR = x_ofR at *
  generalize y_validG : @validG = x_validG at *
  generalize y_sameGr : @sameGr = x_sameGr at *
  generalize y_iC : @iC = x_iC at *
  generalize y_nI : @nI = x_nI at *
  generalize y_strsOf : @strsOf = x_strsOf at *
  generalize y_rC : @rC = x_rC at *
  generalize y_nR : @nR = x_nR at *
  generalize y_sC : @sC = x_sC at *
  generalize y_nS : @nS = x_nS at *
  (repeat' first | ((first | with_reducible refine tr_cut (fun h => ?_) (fun h => ?_) | refine aw_condj (by cbv) (fun h => ?_) (fun h => ?_)) <;> (try simp (disch := omega) only [hj, std, cmpI, cmpB, satB, Bool.not_eq_true, Bool.not_eq_false, decide_eq_true_eq, decide_eq_false_iff_not, beq_iff_eq, bne_iff_ne, bne_eq_false_iff_eq, beq_eq_false_iff_ne, ne_eq, reduceCtorEq, not_true_eq_false, not_false_eq_true, pl0, if_true, cmpS_eq, cmpS_neq, Bool.not_eq_eq_eq_not, Bool.not_true, Bool.not_false, Bool.not_eq_true', x1, x2, x3, x4, x5, x6, e1, e2, add64, sub64] at h) <;> (try (exfalso; omega))) | (with_reducible refine tr_alt (fun h => ?_) ?_ <;> (try (exfalso; omega))) | (with_reducible refine tr_ob ?_ ?_) | (with_reducible refine tr_done ?_) | (refine aw_dr1 (id := 12) hj tok hm (bookGV x_rlsOf x_fewG x_ofR x_validG x_sameGr x_iC x_nI x_strsOf) true [(0, false), (1, true), (2, true), (3, true), (4, true), (5, false), (7, false), (6, true), (8, true), (9, true), (10, true), (11, true), (12, false), (13, false), (15, false), (16, false), (14, true), (17, true), (18, true), (19, true), (20, true), (21, false), (22, true), (23, true), (24, true), (25, true), (26, true), (27, true), (28, true)] (by kernel_rfl) (by cbv) ?_) | (refine aw_dr (id := 12) hj tok hm (bookGV x_rlsOf x_fewG x_ofR x_validG x_sameGr x_iC x_nI x_strsOf) true [(0, false), (1, true), (2, true), (3, true), (4, true), (5, false), (7, false), (6, true), (8, true), (9, true), (10, true), (11, true), (12, false), (13, false), (15, false), (16, false), (14, true), (17, true), (18, true), (19, true), (20, true), (21, false), (22, true), (23, true), (24, true), (25, true), (26, true), (27, true), (28, true)] (by kernel_rfl) (by cbv) ?_) | (refine aw_tr hj tok (bookGV x_rlsOf x_fewG x_ofR x_validG x_sameGr x_iC x_nI x_strsOf) (by cbv) ?_) | (refine aw_seq fun K hK => ?_) | (refine aw_tr1 hj tok (bookGV x_rlsOf x_fewG x_ofR x_validG x_sameGr x_iC x_nI x_strsOf) (by cbv) ?_) | (refine aw_skip ?_) | (refine aw_block ?_) | (refine aw_exit ?_) | (refine aw_ret ⟨.inr rfl, ret_okj hj (by cbv) ?_ ?_⟩) | (refine aw_ret ?_) | (with_reducible refine th_n ?_) | (with_reducible refine th_r ?_) | (with_reducible refine th_x ?_) | (with_reducible refine blk_n ?_) | (with_reducible refine blk_r ?_) | (with_reducible refine blk_x ?_) | (with_reducible refine blk_y rfl ?_) | (refine ⟨.inr rfl, ret_okj hj (by cbv) ?_ ?_⟩) | (refine ⟨.inl rfl, ret_okj hj (by cbv) ?_ ?_⟩) | ((with_reducible refine ⟨(_, _, _, _), by cbv, ?_, ?_⟩)) | ((with_reducible refine ⟨_, by cbv, ?_, ?_⟩)) | (with_reducible apply_assumption -symm -exfalso only [*]))
  all_goals ((try subst y_rlsOf); (try subst y_fewG); (try subst y_ofR); (try subst y_validG); (try subst y_sameGr); (try subst y_iC); (try subst y_nI); (try subst y_strsOf); (try subst y_rC); (try subst y_nR); (try subst y_sC); (try subst y_nS))
  all_goals (try (repeat' first | with_reducible exact obl0 | with_reducible refine obl1 ?_ ?_))
  all_goals (try first | with_reducible exact True.intro | (refine ob_pc hj ?_; (try rw [hj]); first | exact c_awake14 | exact c_VG S1 | exact c_V14 S1 | exact c_Sm S1.l S2.l | exact c_Sm14 S1.l S2.l | exact c_Sm S1.l S1.l) | (refine ob_pcn hj ?_; (try rw [hj]); first | exact c_awake14 | exact c_VG S1 | exact c_V14 S1 | exact c_Sm S1.l S2.l | exact c_Sm14 S1.l S2.l | exact c_Sm S1.l S1.l) | ((first | refine ob_le hj ?_ | refine ob_lei hj ?_ | refine ob_inb hj ?_ | refine ob_pos hj ?_ | refine ob_ne0 hj ?_ | refine ob_eqb hj ?_); (first | rfl | first | omega | (simp only [hj, std]; split <;> omega) | (simp (disch := omega) only [hj, std, cmpI, cmpB, satB, add64, sub64, ite0, pl0, pl2, pl3, sb0, if_true, if_false, eq_self, rC_len, iC_len] <;> omega) | (simp (disch := omega) [hj, std, cmpI, cmpB, satB, add64, sub64, ite0, pl0, pl2, pl3, sb0, if_true, if_false, eq_self, rC_len, iC_len] <;> omega))) | (exact rfl) | ((refine ob_ok hj ?_; simp only [hj, std, ite0]; first | exact ok_rC1 (by omega) | exact ok_rC0 (by omega) | exact ok_iC (by omega))) | ((exfalso; have k := hat (by omega) (by assumption); omega)) | ((exfalso; have k := hend (by omega); omega)) | ((exfalso; have k := ‹sameGr a1 b1 c1 a1 b1 c1 = false›; rw [hself] at k; cases k)) | ((refine ob_vals hj ?_; exact iC_vals _)) | ((simp (disch := omega) only [hj, std, add64]; first | omega | (refine ⟨by omega, by omega, by omega, by omega, trivial, trivial, P ++ [i], by rw [List.length_append, p1, List.length_singleton]; omega, hyes (by omega) (by assumption)⟩) | (refine ⟨by omega, by omega, by omega, by omega, trivial, trivial, P, p1, hno (by omega) (by assumption)⟩))))
end Go.Proofs.Ytgimfjmigoibgaa.A
/- A grammar that came in, as cells. -/
set_option linter.unusedSimpArgs false
set_option linter.unusedVariables false
set_option maxRecDepth 100000
set_option maxHeartbeats 4000000
namespace Go.Proofs.Ytgimfjmigoibgaa.A
open Go
abbrev RStrs : Rd (List ByteArray) := RSl 1 16 RStr
abbrev RInts : Rd (List Int) := RSl 1 8 RInt
abbrev RRule : Rd (Int × List Int) := RRec2 RInt RInts
abbrev RGram : Rd (List ByteArray × List ByteArray × List (Int × List Int)) := RRec3 RStrs RStrs (RSl 2 32 RRule)
theorem sl_mem {α : Type} {sz by_ : Nat} {R : Rd α} {w : World} {cs : List Value} {xs : List α} (h : RSl sz by_ R w cs xs) : ∀ x ∈ xs, ∃ cs', R w cs' x := by
  obtain ⟨a, cap, _, hs, _⟩ := h
  intro x hx
  obtain ⟨i, hi, rfl⟩ := List.mem_iff_getElem.1 hx
  obtain ⟨b, off, _, _, hc⟩ := hs (by omega)
  obtain ⟨cs', _, _, h3⟩ := hc i hi
  exact ⟨cs', h3⟩
theorem sl_bound {α : Type} {sz by_ : Nat} {R : Rd α} {w : World} {cs : List Value} {xs : List α} (h : RSl sz by_ R w cs xs) : xs.length * by_ ≤ 140737488351232 := by
  obtain ⟨a, cap, _, _, hle, hcap, _⟩ := h
  exact Nat.le_trans (Nat.mul_le_mul_right _ hle) hcap
theorem rC_flat (l : List Rl) : l.flatMap (fun r => [vI r.1] ++ [.sl r.2.length (r.2.flatMap fun n => [vI n])]) = rC l := by
  unfold rC
  congr 1
  funext r
  rw [iC_flat, ← nI_eq]; rfl
theorem rdc_to {α : Type} {R : Rd α} {f g : α → List C} (h : RdC R f) (e : ∀ x, f x = g x) : RdC R g := by rw [← show f = g from funext e]; exact h
theorem rdc_strs : RdC RStrs fun l => [(C.sl (nS l) (sC l))] := rdc_to (rdc_sl rdc_str (fun _ => rfl)) fun l => by show [C.sl l.length _] = _; rw [sC_flat, ← nS_eq]
theorem rdc_rules : RdC (RSl 2 32 RRule) fun l => [(C.sl (nR l) (rC l))] :=
  rdc_to (rdc_sl (f := fun r : Rl => [vI r.1] ++ [.sl r.2.length (r.2.flatMap fun n => [vI n])]) (rdc_rec2 rdc_int (rdc_sl rdc_int (fun _ => rfl))) (fun _ => rfl)) fun l => by show [C.sl l.length _] = _; rw [rC_flat, ← nR_eq]
theorem rdc_gram : RdC RGram fun x => [(C.sl (nS x.1) (sC x.1)), (C.sl (nS x.2.1) (sC x.2.1)), (C.sl (nR x.2.2) (rC x.2.2))] := rdc_rec3 rdc_strs rdc_strs rdc_rules
structure GrB (ns ts : List ByteArray) (rs : List Rl) : Prop where
  n : nS ns < 4611686018427387904
  t : nS ts < 4611686018427387904
  r : nR rs < 2305843009213693952
  i : ∀ r ∈ rs, nI r.2 < 4611686018427387904
  s : ∀ s ∈ ns, s.size < 4611686018427387904
  u : ∀ s ∈ ts, s.size < 4611686018427387904
theorem gram_b {w : World} {cs : List Value} {x : List ByteArray × List ByteArray × List (Int × List Int)} (h : RGram w cs x) : GrB x.1 x.2.1 x.2.2 := by
  obtain ⟨c0, c1, c2, rfl, h0, h1, h2⟩ := h
  have b0 := sl_bound h0; have b1 := sl_bound h1; have b2 := sl_bound h2
  refine ⟨by rw [nS_eq]; omega, by rw [nS_eq]; omega, by rw [nR_eq]; omega, fun r hr => ?_, fun s hs => ?_, fun s hs => ?_⟩
  · obtain ⟨cs', d0, d1, _, _, h3⟩ := sl_mem h2 r hr
    have := sl_bound h3
    rw [nI_eq]; omega
  · obtain ⟨cs', _, h3⟩ := sl_mem h0 s hs; omega
  · obtain ⟨cs', _, h3⟩ := sl_mem h1 s hs; omega
theorem gram_arg {w : World} {a : Array Value} {x : List ByteArray × List ByteArray × List (Int × List Int)} {bx : Nat → Nat} {b : Nat} (h : RGram w (Value.agg a).cells.toList x) : ArgRep w (fun b => b < w.heap.size) bx b (.agg a) (.v true [(C.sl (nS x.1) (sC x.1)), (C.sl (nS x.2.1) (sC x.2.1)), (C.sl (nR x.2.2) (rC x.2.2))]) := by
  obtain ⟨h1, h2⟩ := rdc_gram w _ x h
  have e : (Value.agg a).cells.toList = a.toList := rfl
  rw [e] at h1 h2
  refine ⟨a, rfl, by simpa using h1, fun k hk hk2 => ?_⟩
  have := h2 k (by simpa using hk2) hk
  rwa [Array.getElem_toList] at this
end Go.Proofs.Ytgimfjmigoibgaa.A
/- GramValid: the walk, as the row's step asks for it. -/
set_option linter.unusedSimpArgs false
set_option linter.unusedVariables false
set_option maxRecDepth 100000
set_option maxHeartbeats 4000000
namespace Go.Proofs.Ytgimfjmigoibgaa
open Go Go.RowKit
theorem gramValid_walk (w : World) (a0 : Array Value) (x0 : List ByteArray × List ByteArray × List (Int × List Int)) (R0 : A.RGram w (Value.agg a0).cells.toList x0) (a1 : Array Value) (x1 : List ByteArray × List ByteArray × List (Int × List Int)) (R1 : A.RGram w (Value.agg a1).cells.toList x1) (a2 : Int) (_ : -9223372036854775808 ≤ a2 ∧ a2 ≤ 9223372036854775807) :
    Calls Try.prog 7 #[.agg a0, .agg a1, .int .i64 a2] w fun e w' => e = .returned (.bool true) ∧ Below w.heap.size w w' := by
  have hb := A.gram_b R0
  have hc := A.gram_b R1
  exact A.walk_of_pc (vs := [.agg a0, .agg a1, .int .i64 a2]) (A.pc_GramValidL x0.1 x0.2.1 x0.2.2 x1.1 x1.2.1 x1.2.2 a2 ⟨hb.n, hb.t, hb.r, hb.i⟩ ⟨hc.n, hc.t, hc.r, hc.i⟩ hb.s hb.u hc.s hc.u) (by simp [A.Arg.asRoot]) (fun b => b < w.heap.size) (fun _ h => h) rfl (fun i h h2 => by
    have h3 : i < 3 := h
    match i, h3 with
    | 0, _ => exact A.gram_arg R0
    | 1, _ => exact A.gram_arg R1
    | 2, _ => exact ⟨_, rfl, .val rfl⟩)
end Go.Proofs.Ytgimfjmigoibgaa
