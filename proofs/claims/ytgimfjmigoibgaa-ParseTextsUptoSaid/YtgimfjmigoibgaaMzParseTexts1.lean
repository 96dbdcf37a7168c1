/- What ParseTexts needs beyond, part 1. -/
import Derived.Test.YtgimfjmigoibgaaMz5
import Derived.WalkKit
import Derived.WalkSpells
import Derived.WalkLawsBesides
import Derived.Lib.Hide
import Derived.Laws.AppendOwnNone
import Derived.Laws.CopyOwn
import Derived.BigQuiet
import Derived.Deep.QuietTactic
import Derived.ProofKit
import Derived.OpenShut
import Derived.SizedLaws
import Derived.Deep.Slices
import Derived.Deep.Strs
import Derived.Test.YtgimfjmigoibgaaRows
import Derived.Shelf.Strings.BuilderK
import Derived.Test.YtgimfjmigoibgaaProg
import Derived.BigCall
/- Base lemmas of this prover: byte arrays, slices of strings that came in or were made. No program in sight. -/
set_option linter.unusedSimpArgs false
set_option linter.unusedVariables false
set_option maxRecDepth 100000
set_option maxHeartbeats 4000000
namespace Go.Proofs.Ytgimfjmigoibgaa
open Go.RowKit
theorem bt_data (x : ByteArray) (i : Nat) : bt x i = (x.data.toList.getD i 0).toNat := by
  unfold bt
  split
  · rename_i h
    have h2 : i < x.data.size := h
    rw [List.getD_eq_getElem?_getD, Array.getElem?_toList, Array.getElem?_eq_getElem h2]
    rfl
  · rename_i h
    have h2 : ¬ i < x.data.size := h
    rw [List.getD_eq_getElem?_getD, Array.getElem?_toList, Array.getElem?_eq_none (by omega)]
    rfl
theorem bt_append_left {x y : ByteArray} {i : Nat} (h : i < x.size) : bt (x ++ y) i = bt x i := by
  have h2 : i < x.data.toList.length := by simpa using h
  rw [bt_data, bt_data, ByteArray.data_append, Array.toList_append, List.getD_eq_getElem?_getD, List.getD_eq_getElem?_getD, List.getElem?_append_left h2]
theorem bt_append_right {x y : ByteArray} {i : Nat} (h : x.size ≤ i) : bt (x ++ y) i = bt y (i - x.size) := by
  have h2 : x.data.toList.length ≤ i := by simpa using h
  rw [bt_data, bt_data, ByteArray.data_append, Array.toList_append, List.getD_eq_getElem?_getD, List.getD_eq_getElem?_getD, List.getElem?_append_right h2]
  rw [show x.data.toList.length = x.size by simp]
end Go.Proofs.Ytgimfjmigoibgaa
/- Worlds that change at some blocks alone; owned rows cut, read, and appended to from whatever source. No program in sight. -/
set_option linter.unusedSimpArgs false
set_option linter.unusedVariables false
set_option maxRecDepth 100000
set_option maxHeartbeats 4000000
namespace Go.Proofs.Ytgimfjmigoibgaa
open Go.RowKit
theorem Chg.of_below {a b : World} (h : Below a.heap.size a b) (S : Nat → Prop) : Chg S a b := ⟨h.os, h.tape, h.output, h.size, fun k hk _ => h.block k hk⟩
section
variable {P : Program} {ops : Array Oper} {o : Oper} {a : Act} {Q : Exit → Act → World → Prop}
end
end Go.Proofs.Ytgimfjmigoibgaa
/- From the model's reading of an argument to plain predicates on worlds: a reading relation a type, put together from parts. No program in sight. -/
set_option linter.unusedSimpArgs false
set_option linter.unusedVariables false
set_option maxRecDepth 100000
set_option maxHeartbeats 4000000
namespace Go.Proofs.Ytgimfjmigoibgaa
open Go.RowKit Go.ChangeShapes Go.WideShapes Go.ChangeAt
def RBool : Rd Bool := fun _ cs b => cs = [.bool b]
def RPair {α β : Type} (s1 s2 : Nat) (A : Rd α) (B : Rd β) : Rd (α × β) := fun w cs x => ∃ c1 c2, cs = c1 ++ c2 ∧ c1.length = s1 ∧ c2.length = s2 ∧ A w c1 x.1 ∧ B w c2 x.2
def SlAt {α : Type} (sz : Nat) (R : Rd α) (w : World) (a : Option Addr) (xs : List α) : Prop :=
  0 < xs.length → ∃ b off, a = some ⟨b, off, none⟩ ∧ b < w.heap.size ∧ ∀ i (h : i < xs.length), ∃ cs, cs.length = sz ∧ (∀ j, j < sz → w.cell? ⟨b, off + (i * sz + j), none⟩ = cs[j]?) ∧ R w cs xs[i]
def RSl {α : Type} (sz by_ : Nat) (R : Rd α) : Rd (List α) := fun w cs xs => ∃ a cap, cs = [.slice a xs.length cap] ∧ SlAt sz R w a xs ∧ xs.length ≤ cap ∧ cap * by_ ≤ 140737488351232 ∧ cap ≤ maxLen ∧ (a = none → cap = 0)
/-! ### from the model's reading -/
section
variable {H : Type} {enc : TypeId × Value → H} {P : Program} {w : World}
theorem lk_bool {t : TypeId} (ht : P.underlying t = some .bool) : Lk enc P w t RBool := by
  intro fuel cs x h _
  obtain ⟨b, rfl, _⟩ := DataW.trod_bool ht h
  exact ⟨b, rfl⟩
theorem mem_weightsAll {t : TypeId} {l : List (DataW H)} {d : DataW H} (h : d ∈ l) {n : Nat} (hn : n ∈ d.weights P t) : n ∈ DataW.weightsAll P t l := by
  induction l with
  | nil => cases h
  | cons a l ih =>
    rw [DataW.weightsAll]
    rcases List.mem_cons.1 h with rfl | h
    · exact List.mem_append.2 (.inl hn)
    · exact List.mem_append.2 (.inr (ih h))
end
end Go.Proofs.Ytgimfjmigoibgaa
/- The ghost machine, part 34: from what an argument reads as to the machine's cells. -/
set_option linter.unusedSimpArgs false
set_option linter.unusedVariables false
set_option maxRecDepth 100000
set_option maxHeartbeats 4000000
namespace Go.Proofs.Ytgimfjmigoibgaa.A
open Go
def RdC {α : Type} (R : Rd α) (f : α → List C) : Prop :=
  ∀ (w : World) (cs : List Value) (x : α), R w cs x → cs.length = (f x).length ∧ ∀ k (h : k < cs.length) (h2 : k < (f x).length), CRep w (fun b => b < w.heap.size) cs[k] (f x)[k]
theorem rdc_one {w : World} {S : Nat → Prop} {v : Value} {c : C} (h : CRep w S v c) : [v].length = [c].length ∧ ∀ k (h : k < [v].length) (h2 : k < [c].length), CRep w S [v][k] [c][k] :=
  ⟨rfl, fun k hk hk2 => by
    have hk' : k < 1 := hk
    obtain rfl : k = 0 := by omega
    exact h⟩
theorem rdc_bool : RdC RBool fun b => [vB b] := by rintro w cs b rfl; exact rdc_one (.val rfl)
theorem rdc_pair {α β : Type} {s1 s2 : Nat} {A : Rd α} {B : Rd β} {f : α → List C} {g : β → List C} (ha : RdC A f) (hb : RdC B g) : RdC (RPair s1 s2 A B) fun x => f x.1 ++ g x.2 := by
  rintro w cs x ⟨c1, c2, rfl, h1, h2, h3, h4⟩
  obtain ⟨l1, k1⟩ := ha w c1 x.1 h3
  obtain ⟨l2, k2⟩ := hb w c2 x.2 h4
  refine ⟨by rw [List.length_append, List.length_append, l1, l2], fun k hk hk2 => ?_⟩
  by_cases hlt : k < c1.length
  · rw [List.getElem_append_left hlt, List.getElem_append_left (by omega)]
    exact k1 k hlt (by omega)
  · have e1 : k < (c1 ++ c2).length := hk
    have e2 : k < (f x.1 ++ g x.2).length := hk2
    simp only [List.length_append] at e1 e2
    rw [List.getElem_append_right (by omega), List.getElem_append_right (by omega)]
    simp only [l1]
    exact k2 _ (by omega) (by omega)
theorem flat_cells {α : Type} {R : Rd α} {f : α → List C} {sz : Nat} (hR : RdC R f) (hsz : ∀ x, (f x).length = sz) {w : World} {b : Nat} :
    ∀ (xs : List α) (off : Nat), (∀ i (h : i < xs.length), ∃ cs : List Value, cs.length = sz ∧ (∀ j, j < sz → w.cell? ⟨b, off + (i * sz + j), none⟩ = cs[j]?) ∧ R w cs xs[i]) →
      ∀ j (h : j < (xs.flatMap f).length), ∃ v, w.cell? ⟨b, off + j, none⟩ = some v ∧ CRep w (fun b => b < w.heap.size) v (xs.flatMap f)[j] := by
  intro xs
  induction xs with
  | nil => intro off _ j h; exact absurd h (by simp)
  | cons x xs ih =>
    intro off hc j hj
    obtain ⟨cs, c1, c2, c3⟩ := hc 0 (by simp)
    obtain ⟨l1, k1⟩ := hR w cs x c3
    have hfl : (x :: xs).flatMap f = f x ++ xs.flatMap f := List.flatMap_cons ..
    have hj2 : j < (f x ++ xs.flatMap f).length := by rw [← hfl]; exact hj
    have hx := hsz x
    by_cases hlt : j < sz
    · have hjc : j < cs.length := by omega
      have h3 := c2 j hlt
      rw [Nat.zero_mul, Nat.zero_add, List.getElem?_eq_getElem hjc] at h3
      refine ⟨cs[j], h3, ?_⟩
      have e1 : ((x :: xs).flatMap f)[j] = (f x)[j]'(by omega) := by
        simp only [hfl]; rw [List.getElem_append_left (by omega)]
      rw [e1]
      exact k1 j hjc (by omega)
    · simp only [List.length_append] at hj2
      obtain ⟨v, v1, v2⟩ := ih (off + sz) (fun i hi => by
        obtain ⟨cs, d1, d2, d3⟩ := hc (i + 1) (by simp; omega)
        refine ⟨cs, d1, fun j hj => ?_, by simpa using d3⟩
        have := d2 j hj
        rw [Nat.add_mul, Nat.one_mul] at this
        rw [← this]; congr 2; omega) (j - sz) (by omega)
      refine ⟨v, ?_, ?_⟩
      · rw [← v1]; congr 2; omega
      · have e1 : ((x :: xs).flatMap f)[j] = (xs.flatMap f)[j - sz]'(by omega) := by
          simp only [hfl]; rw [List.getElem_append_right (by omega)]; simp only [hx]
        rw [e1]; exact v2
theorem crep_rdsl {α : Type} {R : Rd α} {f : α → List C} {sz : Nat} (hR : RdC R f) (hsz : ∀ x, (f x).length = sz) {w : World} {a : Option Addr} {cap : Nat} {xs : List α} (hs : SlAt sz R w a xs) (hle : xs.length ≤ cap) :
    CRep w (fun b => b < w.heap.size) (.slice a xs.length cap) (.sl xs.length (xs.flatMap f)) := by
  by_cases h0 : xs.length = 0
  · have : xs = [] := List.eq_nil_of_length_eq_zero h0
    subst this
    exact .sl0
  · obtain ⟨b, off, rfl, hlt, hc⟩ := hs (by omega)
    have key := flat_cells hR hsz xs off hc
    refine .sl (fun j => (w.cell? ⟨b, off + j, none⟩).getD undef) hlt hle (fun j hj => ?_) (fun j hj => ?_)
    · obtain ⟨v, v1, _⟩ := key j hj
      rw [v1]; rfl
    · obtain ⟨v, v1, v2⟩ := key j hj
      show CRep w _ ((w.cell? ⟨b, off + j, none⟩).getD undef) _
      rw [v1]; exact v2
theorem rdc_sl {α : Type} {R : Rd α} {f : α → List C} {sz by_ : Nat} (hR : RdC R f) (hsz : ∀ x, (f x).length = sz) : RdC (RSl sz by_ R) fun xs => [.sl xs.length (xs.flatMap f)] := by
  rintro w cs xs ⟨a, cap, rfl, hs, hle, _⟩
  exact rdc_one (crep_rdsl hR hsz hs hle)
end Go.Proofs.Ytgimfjmigoibgaa.A
/- Readings of structs whose fields take one cell each. No program in sight. -/
set_option linter.unusedSimpArgs false
set_option linter.unusedVariables false
set_option maxRecDepth 100000
set_option maxHeartbeats 4000000
namespace Go.Proofs.Ytgimfjmigoibgaa
open Go.RowKit Go.ChangeShapes Go.WideShapes Go.ChangeAt
def RRec2 {α β : Type} (A : Rd α) (B : Rd β) : Rd (α × β) := fun w cs x => ∃ c0 c1, cs = [c0, c1] ∧ A w [c0] x.1 ∧ B w [c1] x.2
section
variable {H : Type} {enc : TypeId × Value → H} {P : Program} {w : World}
theorem lk_len {t : TypeId} {fs : Array Field} (ht : P.underlying t = some (.struct fs)) {fuel : Nat} {cs : List Value} {x : DataW H × List MemPlace} (h : DataW.trod enc P w 0 (fun _ => true) true fuel t cs = some x) : cs.length = P.cellsOf t := by
  obtain ⟨xs, n, rfl, rfl, hl, hxs, hall⟩ := DataW.trod_struct ht h
  exact hl
end
end Go.Proofs.Ytgimfjmigoibgaa
/- The ghost machine: structs that came in, as cells. -/
set_option linter.unusedSimpArgs false
set_option linter.unusedVariables false
set_option maxRecDepth 100000
set_option maxHeartbeats 4000000
namespace Go.Proofs.Ytgimfjmigoibgaa.A
open Go
theorem rdc_rec2 {α β : Type} {A : Rd α} {B : Rd β} {f : α → List C} {g : β → List C} (ha : RdC A f) (hb : RdC B g) : RdC (RRec2 A B) fun x => f x.1 ++ g x.2 := by
  rintro w cs x ⟨c0, c1, rfl, h1, h2⟩
  exact rdc_pair (s1 := 1) (s2 := 1) ha hb w _ x ⟨[c0], [c1], rfl, rfl, rfl, h1, h2⟩
end Go.Proofs.Ytgimfjmigoibgaa.A
/- Readings of arguments of small bulk: texts are short. -/
set_option linter.unusedSimpArgs false
set_option linter.unusedVariables false
set_option maxRecDepth 100000
set_option maxHeartbeats 4000000
namespace Go.Proofs.Ytgimfjmigoibgaa
open Go.RowKit Go.ChangeShapes Go.WideShapes Go.ChangeAt
def RStrB : Rd ByteArray := fun _ cs s => cs = [.string s] ∧ s.size ≤ 1048576
section
variable {H : Type} {enc : TypeId × Value → H} {P : Program} {w : World}
def LkB {α : Type} (enc : TypeId × Value → H) (P : Program) (w : World) (t : TypeId) (R : Rd α) : Prop :=
  ∀ (fuel : Nat) (cs : List Value) (x : DataW H × List MemPlace), DataW.trod enc P w 0 (fun _ => true) true fuel t cs = some x → (x.1.weights P t).all (· ≤ reachBytes) = true → Rows.uptoBulk x.1 ≤ 1048576 → ∃ a, R w cs a
theorem lkb_of {α : Type} {t : TypeId} {R : Rd α} (h : Lk enc P w t R) : LkB enc P w t R := fun fuel cs x h1 h2 _ => h fuel cs x h1 h2
theorem lkb_str {t : TypeId} (ht : P.underlying t = some .string) : LkB enc P w t RStrB := by
  intro fuel cs x h _ hb
  obtain ⟨s, rfl, rfl, _⟩ := DataW.trod_string ht h
  refine ⟨s, rfl, ?_⟩
  simp only [Rows.uptoBulk, Array.length_toList] at hb
  have e : s.data.size = s.size := rfl
  omega
theorem bulk_part {d : DataW H} {l : List (DataW H)} (h : d ∈ l) : Rows.uptoBulk d ≤ Rows.uptoBulkAll l := by
  induction l with
  | nil => cases h
  | cons x l ih =>
    rw [Rows.uptoBulkAll]
    rcases List.mem_cons.1 h with rfl | h
    · omega
    · have := ih h; omega
theorem lkb_sl {α : Type} {t e : TypeId} {sz by_ : Nat} {R : Rd α} (ht : P.underlying t = some (.slice e)) (hsz : P.cellsOf e = sz) (hpos : 0 < sz) (hby : P.bytesOf e = by_) (hR : LkB enc P w e R) : LkB enc P w t (RSl sz by_ R) := by
  intro fuel cs x h hz hb0
  subst hsz; subst hby
  rcases Deep.open_slice ht h with ⟨rfl, rfl⟩ | ⟨a, len, cap, m, n, D, Pl, rfl, _, hl, hm, rfl, rfl, hel⟩
  · exact ⟨[], none, 0, rfl, fun h0 => absurd h0 (by simp), Nat.le_refl _, by simp, by simp, fun _ => rfl⟩
  · simp only [if_true] at hel hz
    have hz1 := List.all_eq_true.1 hz
    have hbig : m * P.bytesOf e ≤ 140737488351232 := by
      have h1 := hz1 ((len + (m - len)) * P.bytesOf e) (by simp [DataW.weights, ht])
      have h2 : (len + (m - len)) * P.bytesOf e ≤ reachBytes := of_decide_eq_true h1
      rw [show len + (m - len) = m by omega] at h2
      simp only [reachBytes] at h2
      exact h2
    have helem : ∀ i, i < len → ((D i).weights P e).all (· ≤ reachBytes) = true := by
      intro i hi
      refine List.all_eq_true.2 fun k hk => hz1 k ?_
      simp only [DataW.weights, ht, List.mem_cons, List.mem_append]
      exact .inr (.inl (mem_weightsAll (List.mem_map.2 ⟨i, List.mem_range.2 hi, rfl⟩) hk))
    have hbel : ∀ i, i < len → Rows.uptoBulk (D i) ≤ 1048576 := by
      intro i hi
      have h1 := bulk_part (d := D i) (l := (List.range len).map D) (List.mem_map.2 ⟨i, List.mem_range.2 hi, rfl⟩)
      have h2 := hb0
      simp only [if_true, Rows.uptoBulk] at h2
      omega
    have hx : ∃ xs : List α, xs.length = len ∧ ∀ i (hi : i < xs.length), ∃ cs', w.cells? 0 (a.add (i * P.cellsOf e)) (P.cellsOf e) = some cs' ∧ R w cs' xs[i] := by
      have key : ∀ k, k ≤ len → ∃ xs : List α, xs.length = k ∧ ∀ i (hi : i < xs.length), ∃ cs', w.cells? 0 (a.add (i * P.cellsOf e)) (P.cellsOf e) = some cs' ∧ R w cs' xs[i] := by
        intro k
        induction k with
        | zero => intro _; exact ⟨[], rfl, fun i hi => absurd hi (by simp)⟩
        | succ k ih =>
          intro hk
          obtain ⟨xs, hxl, hxs⟩ := ih (by omega)
          obtain ⟨cs', h1, h2⟩ := hel k (by omega)
          obtain ⟨v, hv⟩ := hR _ _ _ h2 (helem k (by omega)) (hbel k (by omega))
          refine ⟨xs ++ [v], by simp [hxl], fun i hi => ?_⟩
          by_cases hik : i < xs.length
          · rw [List.getElem_append_left hik]; exact hxs i hik
          · have : i = k := by simp at hi; omega
            subst this
            rw [List.getElem_append_right (by omega)]
            simp only [hxl, Nat.sub_self, List.getElem_cons_zero]
            exact ⟨cs', h1, hv⟩
      exact key len (Nat.le_refl _)
    obtain ⟨xs, hxl, hxs⟩ := hx
    subst hxl
    refine ⟨xs, some a, m, rfl, fun h0 => ?_, hl, hbig, hm, fun h => by cases h⟩
    obtain ⟨cs0, h00, _⟩ := hxs 0 h0
    have hb := World.cells?_block h00 hpos
    obtain ⟨b, off, spot⟩ := a
    have hspot : spot = none := by
      obtain ⟨_, hcl, hcc⟩ := World.cells?_some h00
      have h1 := hcc 0 (by omega)
      rw [List.getElem?_eq_getElem (by omega)] at h1
      have := World.cell?_spot h1
      simpa [Addr.add] using this
    subst hspot
    refine ⟨b, off, rfl, by simpa [Addr.add_lit] using hb, fun i hi => ?_⟩
    obtain ⟨cs', h1, h2⟩ := hxs i hi
    obtain ⟨_, hcl, hcc⟩ := World.cells?_some h1
    refine ⟨cs', hcl, fun j hj => ?_, h2⟩
    have := hcc j hj
    rw [Addr.add_lit, Addr.add_lit] at this
    rw [← this, Nat.add_assoc]
theorem lkb_fld {α : Type} {A : Rd α} {t : TypeId} {fs : Array Field} (ht : P.underlying t = some (.struct fs)) (i : Nat) (f : Field) (hf : fs[i]? = some f) (hA : LkB enc P w f.type A) :
    ∀ (fuel : Nat) (cs : List Value) (x : DataW H × List MemPlace), DataW.trod enc P w 0 (fun _ => true) true fuel t cs = some x → (x.1.weights P t).all (· ≤ reachBytes) = true → Rows.uptoBulk x.1 ≤ 1048576 → ∃ a, A w ((cs.drop f.offset).take (P.cellsOf f.type)) a := by
  intro fuel cs x h hz hb0
  obtain ⟨xs, n, rfl, rfl, hl, hxs, hall⟩ := DataW.trod_struct ht h
  have h1 := hall i f hf
  have hi : i < xs.length := by rw [hxs]; exact (Array.getElem?_eq_some_iff.1 hf).1
  rw [List.getElem?_eq_getElem hi] at h1
  refine hA _ _ _ h1 (List.all_eq_true.2 fun m hm => List.all_eq_true.1 hz m ?_) (by
    have h3 := bulk_part (d := xs[i].1) (l := xs.map (·.1)) (List.mem_map.2 ⟨xs[i], List.getElem_mem hi, rfl⟩)
    simp only [Rows.uptoBulk] at hb0
    omega)
  simp only [DataW.weights, ht]
  exact DataW.weights_mem_each (ts := fs.toList.map (·.type)) (j := i) (t := f.type) (d := xs[i].1) (ds := xs.map (·.1)) (by simp [hf]) (by rw [List.getElem?_map, List.getElem?_eq_getElem hi]; rfl) m hm
theorem lkb_rec2 {α β : Type} {A : Rd α} {B : Rd β} {t : TypeId} {f0 f1 : Field} (ht : P.underlying t = some (.struct #[f0, f1])) (ho : (f0.offset, f1.offset, P.cellsOf f0.type, P.cellsOf f1.type, P.cellsOf t) = (0, 1, 1, 1, 2))
    (ha : LkB enc P w f0.type A) (hb : LkB enc P w f1.type B) : LkB enc P w t (RRec2 A B) := by
  intro fuel cs x h hz hb0
  simp only [Prod.mk.injEq] at ho
  obtain ⟨o0, o1, k0, k1, k⟩ := ho
  have hl := lk_len ht h
  rw [k] at hl
  match cs, hl with
  | [c0, c1], _ =>
    obtain ⟨a, h0⟩ := lkb_fld ht 0 f0 rfl ha _ _ _ h hz hb0
    obtain ⟨b, h1⟩ := lkb_fld ht 1 f1 rfl hb _ _ _ h hz hb0
    rw [o0, k0] at h0; rw [o1, k1] at h1
    exact ⟨(a, b), c0, c1, rfl, h0, h1⟩
end
end Go.Proofs.Ytgimfjmigoibgaa
/- Lexing: separators between two texts, the plain law. -/
set_option linter.unusedSimpArgs false
set_option linter.unusedVariables false
set_option maxRecDepth 100000
set_option maxHeartbeats 4000000
namespace Go.Proofs.Ytgimfjmigoibgaa.A
open Go
theorem span_app {p : Nat → Bool} {a t : ByteArray} (ht : p (bt t 0) = false ∨ t.size = 0) (i : Nat) (h : i ≤ a.size) : span p (a ++ t) i = span p a i := by
  have hz : (a ++ t).size = a.size + t.size := ByteArray.size_append
  by_cases hi : i < a.size
  · by_cases hp : p (bt a i) = true
    · rw [span_step hi hp, span_step (s := a ++ t) (by omega) (by rw [bt_append_left hi]; exact hp), span_app ht (i + 1) (by omega)]
    · rw [span_stop (s := a) (fun hh => hp hh.2), span_stop (s := a ++ t) (fun hh => hp (by rw [bt_append_left hi] at hh; exact hh.2))]
  · have hi' : i = a.size := by omega
    rw [span_stop (s := a) (fun hh => hi hh.1), span_stop]
    rintro ⟨h1, h2⟩
    rw [bt_append_right (by omega), hi', Nat.sub_self] at h2
    rcases ht with ht | ht
    · rw [ht] at h2; cases h2
    · omega
termination_by a.size - i
theorem span_in {p : Nat → Bool} {a t : ByteArray} (i : Nat) (h : span p a i < a.size) : span p (a ++ t) i = span p a i := by
  have hz : (a ++ t).size = a.size + t.size := ByteArray.size_append
  have hi : i < a.size := by have := span_ge p a i; omega
  by_cases hp : p (bt a i) = true
  · rw [span_step hi hp] at h ⊢
    rw [span_step (s := a ++ t) (by omega) (by rw [bt_append_left hi]; exact hp), span_in (i + 1) h]
  · rw [span_stop (s := a) (fun hh => hp hh.2), span_stop (s := a ++ t) (fun hh => hp (by rw [bt_append_left hi] at hh; exact hh.2))]
termination_by a.size - i
theorem extract_app {a t : ByteArray} {i k : Nat} (h : k ≤ a.size) : (a ++ t).extract i k = a.extract i k := by
  apply ByteArray.ext
  rw [ByteArray.data_extract, ByteArray.data_append, ByteArray.data_extract, Array.extract_append]
  have : k - a.data.size = 0 := by have : a.data.size = a.size := rfl; omega
  rw [this]
  simp
theorem tokAt_app {a t : ByteArray} {i : Nat} (ht : isMoreN (bt t 0) = false) (hi : i < a.size) (he : (tokAt a i).2.2 = 0) : tokAt (a ++ t) i = tokAt a i := by
  have hz : (a ++ t).size = a.size + t.size := ByteArray.size_append
  unfold tokAt at he ⊢
  dsimp only at he ⊢
  rw [bt_append_left hi]
  by_cases h1 : bt a i = 58
  · rw [if_pos h1, if_pos h1]
  rw [if_neg h1] at he
  rw [if_neg h1, if_neg h1]
  by_cases h2 : bt a i = 124
  · rw [if_pos h2, if_pos h2]
  rw [if_neg h2] at he
  rw [if_neg h2, if_neg h2]
  by_cases h3 : bt a i = 59
  · rw [if_pos h3, if_pos h3]
  rw [if_neg h3] at he
  rw [if_neg h3, if_neg h3]
  by_cases h4 : isLetN (bt a i) = true
  · rw [if_pos h4, if_pos h4, span_app (.inl ht) i (by omega)]
    by_cases h5 : 32 < span isMoreN a i - i
    · rw [if_pos h5, if_pos h5]
    · rw [if_neg h5, if_neg h5, extract_app (span_le _ a i (by omega))]
  rw [if_neg h4] at he
  rw [if_neg h4, if_neg h4]
  by_cases h5 : bt a i = 39
  · rw [if_pos h5] at he
    rw [if_pos h5, if_pos h5]
    by_cases h6 : a.size ≤ span isSpelN a (i + 1) ∨ bt a (span isSpelN a (i + 1)) ≠ 39 ∨ span isSpelN a (i + 1) = i + 1
    · rw [if_pos h6] at he; simp at he
    · have h7 : span isSpelN a (i + 1) < a.size := by omega
      rw [span_in (i + 1) h7, bt_append_left h7, if_neg (by omega), if_neg h6]
      by_cases h8 : 32 < span isSpelN a (i + 1) - i - 1
      · rw [if_pos h8, if_pos h8]
      · rw [if_neg h8, if_neg h8, extract_app (by omega)]
  · rw [if_neg h5] at he; simp at he
def shiftTk (k : Nat) (t : Tk) : Tk := (t.1, t.2.1, t.2.2 + k)
theorem tok_shift (s : ByteArray) (k i : Nat) (hi : k + i < s.size) (he : (tokAt (s.extract k s.size) i).2.2 = 0) :
    (tokAt s (k + i)).1 = shiftTk k (tokAt (s.extract k s.size) i).1 ∧ (tokAt s (k + i)).2.1 = k + (tokAt (s.extract k s.size) i).2.1 ∧ (tokAt s (k + i)).2.2 = 0 := by
  have hz := size_tail s k
  obtain ⟨a1, a2, a3, a4⟩ := tok_tail s (k + i) hi
  obtain ⟨b1, b2, b3, b4⟩ := tok_tail (s.extract k s.size) i (by omega)
  have e : (s.extract k s.size).extract i (s.extract k s.size).size = s.extract (k + i) s.size := by
    rw [hz, extract_tail s k i (s.size - k) (by omega), show k + (s.size - k) = s.size by omega]
  rw [e] at b1 b2 b3 b4
  have w1 := tok_where s (k + i) (by omega)
  have w2 := tok_where (s.extract k s.size) i he
  generalize tokAt s (k + i) = x at *
  generalize tokAt (s.extract k s.size) i = y at *
  generalize tokAt (s.extract (k + i) s.size) 0 = z at *
  obtain ⟨⟨x1, x2, x3⟩, x4, x5⟩ := x
  obtain ⟨⟨y1, y2, y3⟩, y4, y5⟩ := y
  obtain ⟨⟨z1, z2, z3⟩, z4, z5⟩ := z
  dsimp only at *
  unfold shiftTk
  dsimp only
  refine ⟨?_, by omega, by omega⟩
  rw [← a1, b1, ← a2, b2, w1, w2, Nat.add_comm k i]; rfl
theorem lexGo_shift (s b : ByteArray) (k : Nat) (hb : b = s.extract k s.size) (hk : k ≤ s.size) (i : Nat) (h : i ≤ s.size - k) (he : (lexGo b i).2.2 = 0) : lexGo s (k + i) = ((lexGo b i).1.map (shiftTk k), 0, 0) := by
  have hz : b.size = s.size - k := by rw [hb]; exact size_tail s k
  have hs : skip b i + k = skip s (k + i) := by rw [hb]; exact skip_tail s k i hk
  have hss : skip b (skip b i) = skip b i := skip_skip9 _ i
  have hsk := skip_skip9 s (k + i)
  by_cases h1 : skip b i < b.size
  · by_cases h2 : (tokAt b (skip b i)).2.2 = 0
    · have h3 := tokAt_end h1 h2
      have h4 := skip_ge b i
      have ht : (tokAt s (k + skip b i)).1 = shiftTk k (tokAt b (skip b i)).1 ∧ (tokAt s (k + skip b i)).2.1 = k + (tokAt b (skip b i)).2.1 ∧ (tokAt s (k + skip b i)).2.2 = 0 := by
        have := tok_shift s k (skip b i) (by omega) (by rw [← hb]; exact h2)
        rw [← hb] at this; exact this
      obtain ⟨t1, t2, t3⟩ := ht
      have ek : k + skip b i = skip s (k + i) := by omega
      rw [ek] at t1 t2 t3
      generalize hm : skip b i = m at *
      generalize hq : tokAt b m = q at *
      have e1 : lexGo b i = goOn [q.1] (lexGo b q.2.1) := by
        rw [lexGo_skip (i := i) (k := m) (by rw [hss, hm]), lexGo_tok hss h1 (by rw [hq]; exact h2), hq]
      have e2 : lexGo s (k + i) = goOn [shiftTk k q.1] (lexGo s (k + q.2.1)) := by
        rw [lexGo_skip (i := k + i) (k := skip s (k + i)) hsk.symm, lexGo_tok hsk (by omega) t3, t1, t2]
      have h5 : (lexGo b q.2.1).2.2 = 0 := by
        rw [e1] at he; unfold goOn at he
        split at he
        · assumption
        · exact he
      rw [e2, lexGo_shift s b k hb hk _ (by omega) h5, e1]
      unfold goOn
      rw [if_pos h5, if_pos rfl]
      simp
    · rw [lexGo_skip (i := i) (k := skip b i) hss.symm, lexGo_bad hss h1 h2] at he
      exact absurd he h2
  · rw [lexGo_end h1, lexGo_end (by omega)]; rfl
termination_by s.size - k - i
decreasing_by omega
end Go.Proofs.Ytgimfjmigoibgaa.A
/- Rules as text, and back: the plain law. -/
set_option linter.unusedSimpArgs false
set_option linter.unusedVariables false
set_option maxRecDepth 100000
set_option maxHeartbeats 4000000
namespace Go.Proofs.Ytgimfjmigoibgaa.A
open Go
/-! ### the text -/
def spB : ByteArray := ⟨#[32]⟩
def sqB : ByteArray := ⟨#[32, 39]⟩
def quB : ByteArray := ⟨#[39]⟩
def barB : ByteArray := ⟨#[32, 124]⟩
def colB : ByteArray := ⟨#[32, 58]⟩
def endB : ByteArray := ⟨#[32, 59, 10]⟩
def itT (x : It) : ByteArray := if x.1 = true then sqB ++ x.2 ++ quB else spB ++ x.2
def itsT : List It → ByteArray → ByteArray
  | [], o => o
  | x :: r, o => itsT r (o ++ itT x)
def barT (f : Bool) (o : ByteArray) : ByteArray := if f = true then o ++ barB else o
def altsT : Bool → List (List It) → ByteArray → ByteArray
  | _, [], o => o
  | f, a :: r, o => altsT true r (itsT a (barT f o))
def linesT : List Ln → ByteArray → ByteArray
  | [], o => o
  | x :: r, o => linesT r (altsT false x.2 (o ++ x.1 ++ colB) ++ endB)
def txtL (L : List Ln) : ByteArray := linesT L ByteArray.empty
/-! ### the same, with what comes behind -/
def itsR : List It → ByteArray → ByteArray
  | [], e => e
  | x :: r, e => itT x ++ itsR r e
def altsR : Bool → List (List It) → ByteArray → ByteArray
  | _, [], e => e
  | f, a :: r, e => (if f = true then barB else ByteArray.empty) ++ itsR a (altsR true r e)
def linesR : List Ln → ByteArray
  | [] => ByteArray.empty
  | x :: r => x.1 ++ (colB ++ altsR false x.2 (endB ++ linesR r))
theorem ba_nil (o : ByteArray) : o ++ ByteArray.empty = o := by simp
theorem nil_ba (o : ByteArray) : ByteArray.empty ++ o = o := by simp
theorem itsT_R : ∀ (a : List It) (o e : ByteArray), itsT a o ++ e = o ++ itsR a e := by
  intro a
  induction a with
  | nil => intro o e; rfl
  | cons x a ih => intro o e; unfold itsT itsR; rw [ih, ByteArray.append_assoc]
theorem altsT_R : ∀ (A : List (List It)) (f : Bool) (o e : ByteArray), altsT f A o ++ e = o ++ altsR f A e := by
  intro A
  induction A with
  | nil => intro f o e; rfl
  | cons a A ih =>
    intro f o e
    unfold altsT altsR
    rw [ih, itsT_R]
    unfold barT
    cases f
    · rw [if_neg (by decide), if_neg (by decide), nil_ba]
    · rw [if_pos rfl, if_pos rfl, ByteArray.append_assoc]
theorem linesT_R : ∀ (L : List Ln) (o : ByteArray), linesT L o = o ++ linesR L := by
  intro L
  induction L with
  | nil => intro o; unfold linesT linesR; rw [ba_nil]
  | cons x L ih =>
    intro o
    unfold linesT linesR
    rw [ih, ByteArray.append_assoc, altsT_R]
    simp only [ByteArray.append_assoc]
/-! ### its tokens -/
abbrev Tv := Int × ByteArray
def stripT (t : Tk) : Tv := (t.1, t.2.1)
def Lexes (s : ByteArray) (l : List Tv) : Prop := (lexGo s 0).2.2 = 0 ∧ (lexGo s 0).1.map stripT = l
theorem strip_shift (k : Nat) (l : List Tk) : (l.map (shiftTk k)).map stripT = l.map stripT := by rw [List.map_map]; rfl
theorem tail_app (p r : ByteArray) : (p ++ r).extract p.size (p ++ r).size = r := ByteArray.extract_append_eq_right rfl ByteArray.size_append
theorem ext_all (s : ByteArray) : s.extract 0 s.size = s := by
  apply ByteArray.ext; rw [ByteArray.data_extract]; exact Array.extract_size
theorem Lexes.nil : Lexes ByteArray.empty [] := by
  have h : lexGo ByteArray.empty 0 = ([], 0, 0) := lexGo_end (by rw [skip_e (by decide)]; decide)
  unfold Lexes; rw [h]; exact ⟨rfl, rfl⟩
theorem lex_behind {p r : ByteArray} {l : List Tv} (h : Lexes r l) : (lexGo (p ++ r) p.size).2.2 = 0 ∧ (lexGo (p ++ r) p.size).1.map stripT = l := by
  have hz : (p ++ r).size = p.size + r.size := ByteArray.size_append
  have e := lexGo_shift (p ++ r) r p.size (tail_app p r).symm (by omega) 0 (by omega) h.1
  rw [Nat.add_zero] at e
  rw [e]
  exact ⟨rfl, by rw [strip_shift]; exact h.2⟩
theorem Lexes.tok {p r : ByteArray} {l : List Tv} {t : Tk} (h : Lexes r l) (h0 : 0 < p.size) (hs : isBlankN (bt p 0) = false) (hc : bt p 0 ≠ 35) (ht : tokAt p 0 = (t, p.size, 0)) (hr : isMoreN (bt r 0) = false) : Lexes (p ++ r) (stripT t :: l) := by
  have hz : (p ++ r).size = p.size + r.size := ByteArray.size_append
  obtain ⟨h1, h2⟩ := lex_behind (p := p) h
  have hb : bt (p ++ r) 0 = bt p 0 := bt_append_left h0
  have e0 : skip (p ++ r) 0 = 0 := skip_s (by omega) (by rw [hb, hs]; decide) (by rw [hb]; exact hc)
  have e1 : tokAt (p ++ r) 0 = (t, p.size, 0) := by rw [tokAt_app hr h0 (by rw [ht]), ht]
  have e2 := lexGo_tok e0 (by omega) (by rw [e1])
  rw [e1] at e2
  unfold Lexes
  rw [e2]
  unfold goOn
  rw [if_pos h1]
  exact ⟨rfl, by rw [List.map_append, h2]; rfl⟩
theorem Lexes.blank {c : UInt8} {r : ByteArray} {l : List Tv} (h : Lexes r l) (hc : isBlankN c.toNat = true) : Lexes ((⟨#[c]⟩ : ByteArray) ++ r) l := by
  have hp : (⟨#[c]⟩ : ByteArray).size = 1 := rfl
  have hz : ((⟨#[c]⟩ : ByteArray) ++ r).size = (⟨#[c]⟩ : ByteArray).size + r.size := ByteArray.size_append
  obtain ⟨h1, h2⟩ := lex_behind (p := ⟨#[c]⟩) h
  have hb : bt ((⟨#[c]⟩ : ByteArray) ++ r) 0 = c.toNat := by rw [bt_append_left (by omega)]; rfl
  have e0 := lexGo_skip (skip_b (s := (⟨#[c]⟩ : ByteArray) ++ r) (i := 0) (by omega) (by rw [hb]; exact hc))
  rw [hp] at h1 h2
  unfold Lexes
  rw [e0]
  exact ⟨h1, h2⟩
theorem name_first {s : ByteArray} (h : nameI s = true) : isLetN (bt s 0) = true ∧ 0 < s.size := by
  obtain ⟨h1, h2, h3, h4⟩ := name_yes h
  exact ⟨by rw [← isLetN_eq]; exact h3, by omega⟩
theorem let_not {c : Nat} (h : isLetN c = true) : isBlankN c = false ∧ c ≠ 35 ∧ c ≠ 58 ∧ c ≠ 124 ∧ c ≠ 59 := by
  unfold isLetN at h
  simp only [Bool.or_eq_true, Bool.and_eq_true, decide_eq_true_eq] at h
  refine ⟨?_, by omega, by omega, by omega, by omega⟩
  unfold isBlankN
  simp only [Bool.or_eq_false_iff, decide_eq_false_iff_not]
  omega
theorem Lexes.name {s r : ByteArray} {l : List Tv} (hn : nameI s = true) (h : Lexes r l) (hr : isMoreN (bt r 0) = false) : Lexes (s ++ r) ((1, s) :: l) := by
  obtain ⟨h1, h2, h3, h4⟩ := name_yes hn
  obtain ⟨k1, k2⟩ := name_first hn
  obtain ⟨b1, b2, b3, b4, b5⟩ := let_not k1
  have h5 : span isMoreN s 0 = s.size := by
    unfold spanI at h4
    rw [show (fun c : Nat => isMoreI (c : Int)) = isMoreN from funext more_eq, show Int.toNat 0 = 0 from rfl] at h4
    omega
  have e1 : tokAt s 0 = ((1, s, 0), s.size, 0) := by
    unfold tokAt
    dsimp only
    rw [if_neg b3, if_neg b4, if_neg b5, if_pos k1, h5, if_neg (by omega), ext_all]
    rfl
  exact Lexes.tok h k2 b1 b2 e1 hr
theorem two (a b : UInt8) (r : ByteArray) : (⟨#[a, b]⟩ : ByteArray) ++ r = (⟨#[a]⟩ : ByteArray) ++ ((⟨#[b]⟩ : ByteArray) ++ r) := by
  rw [← ByteArray.append_assoc]; rfl
/-! ### read again -/
end Go.Proofs.Ytgimfjmigoibgaa.A
/- Rules as text, by the law. -/
set_option linter.unusedSimpArgs false
set_option linter.unusedVariables false
set_option maxRecDepth 100000
set_option maxHeartbeats 4000000
namespace Go.Proofs.Ytgimfjmigoibgaa.A
open Go
theorem linesT_sz (L : List Ln) (o : ByteArray) : o.size ≤ (linesT L o).size := by rw [linesT_R, ByteArray.size_append]; omega
theorem altsT_sz (l : List (List It)) (f : Bool) (o : ByteArray) : o.size ≤ (altsT f l o).size := by
  have := altsT_R l f o ByteArray.empty
  rw [ba_nil] at this
  rw [this, ByteArray.size_append]; omega
theorem itsT_sz (a : List It) (o : ByteArray) : o.size ≤ (itsT a o).size := by
  have := itsT_R a o ByteArray.empty
  rw [ba_nil] at this
  rw [this, ByteArray.size_append]; omega
theorem pc_text13 (L : List Ln) (cs : List C) (hr : LnRep L cs) (hs : rSz L 1000000) (hz : (txtL L).size ≤ 1099511627776) : PC Try.prog T 12 [.v false [.sl L.length cs]] (ret1 (.st (vS (txtL L)))) [] := by
  have hn := hs.1
  have hcl := hr.1
  have a1 := fun (i : Nat) (h : i < L.length) => hr.2 i h
  have a3 := fun (i : Nat) (h : i < L.length) => hs.2 _ (lAt_mem (L := L) (i := i) h)
  have adr := fun (i : Nat) (h : i < L.length) => drop_lAt (a := L) (k := i) h
  have hstart : linesT (L.drop 0) ByteArray.empty = txtL L := rfl
  have hend : L.drop L.length = [] := List.drop_length
  generalize hm1 : L.length = n at *
  refine pc_of tok Try.func12 rfl (by rfl) ?_
  obtain ⟨j, hj⟩ : ∃ j : J, j = std Try.prog T := ⟨_, rfl⟩
  have hm : Try.prog.follows .mixedOrders = true := by kernel_rfl
  generalize y_txtL : @txtL = x_txtL at *
  (repeat' first | ((first | with_reducible refine tr_cut (fun h => ?_) (fun h => ?_) | refine aw_condj (by cbv) (fun h => ?_) (fun h => ?_)) <;> (try simp (disch := omega) only [hj, std, cmpI, cmpB, satB, Bool.not_eq_true, Bool.not_eq_false, decide_eq_true_eq, decide_eq_false_iff_not, beq_iff_eq, bne_iff_ne, bne_eq_false_iff_eq, beq_eq_false_iff_ne, ne_eq, reduceCtorEq, not_true_eq_false, not_false_eq_true, pl0, if_true, cmpS_eq, cmpS_neq, Bool.not_eq_eq_eq_not, Bool.not_true, Bool.not_false, Bool.not_eq_true', add64, sub64] at h) <;> (try (exfalso; omega))) | (with_reducible refine tr_alt (fun h => ?_) ?_ <;> (try (exfalso; omega))) | (with_reducible refine tr_ob ?_ ?_) | (with_reducible refine tr_done ?_) | (refine aw_tr hj tok book0 (by cbv) ?_) | (refine aw_seq fun K hK => ?_) | (refine aw_tr1 hj tok book0 (by cbv) ?_) | (refine aw_skip ?_) | (refine aw_block ?_) | (refine aw_exit ?_) | (refine aw_ret ⟨.inr rfl, ret_okj hj (by cbv) ?_ ?_⟩) | (refine aw_ret ?_) | (with_reducible refine th_n ?_) | (with_reducible refine th_r ?_) | (with_reducible refine th_x ?_) | (with_reducible refine blk_n ?_) | (with_reducible refine blk_r ?_) | (with_reducible refine blk_x ?_) | (with_reducible refine blk_y rfl ?_) | (refine ⟨.inr rfl, ret_okj hj (by cbv) ?_ ?_⟩) | (refine ⟨.inl rfl, ret_okj hj (by cbv) ?_ ?_⟩) | ((with_reducible refine ⟨(_, _), by cbv, ?_, ?_⟩)) | ((with_reducible refine ⟨_, by cbv, ?_, ?_⟩)) | (with_reducible apply_assumption -symm -exfalso only [*]))
  all_goals ((try subst y_txtL))
  refine aw_lpj hj [(0, .keep), (3, .keep), (4, .keep)] [] (fun (⟨i, o⟩ : Int × ByteArray) => stOf 76 [(0, .one (.c (.sl n cs))), (3, .one (.c (vS o))), (4, .one (.c (vI i)))] []) (fun (⟨i, o⟩ : Int × ByteArray) => n - i.toNat) (fun (⟨i, o⟩ : Int × ByteArray) => 0 ≤ i ∧ i ≤ n ∧ linesT (L.drop i.toNat) o = txtL L) ((0, _)) (by generalize @txtL = x_txtL; cbv) ?_ (fun ⟨i, o⟩ hI => ?_)
  · exact ⟨by omega, by omega, hstart⟩
  obtain ⟨i1, i2, hI⟩ := hI
  rcases Decidable.em (i < (n : Int)) with hi | hi
  · obtain ⟨b1, b2, b3, b4⟩ := a1 i.toNat (by omega)
    obtain ⟨hA, hB⟩ := a3 i.toNat (by omega)
    rw [adr i.toNat (by omega)] at hI
    generalize lAt L i.toNat = X at *
    obtain ⟨nm, As⟩ := X
    dsimp only at b1 b3 b4 hA hB hI
    have hI2 : linesT (L.drop (i.toNat + 1)) (altsT false As (o ++ nm ++ colB) ++ endB) = txtL L := hI
    have hz4 : (altsT false As (o ++ nm ++ colB) ++ endB).size ≤ 1099511627776 := by
      have h1 := linesT_sz (L.drop (i.toNat + 1)) (altsT false As (o ++ nm ++ colB) ++ endB)
      rw [hI2] at h1; omega
    have hz1 : (o ++ nm ++ colB).size ≤ 1099511627776 := by
      have h2 := altsT_sz As false (o ++ nm ++ colB)
      rw [ByteArray.size_append] at hz4; omega
    have hz2 : o.size + nm.size + 2 ≤ 1099511627776 := by rw [ByteArray.size_append, ByteArray.size_append] at hz1; exact hz1
    have hz3 : (o ++ nm).size = o.size + nm.size := ByteArray.size_append
    have e1 : gs (cellAt cs (i.toNat * 2)) = nm := by rw [b1]; rfl
    obtain ⟨l1, l2⟩ := b4
    generalize hds : gc (cellAt cs (i.toNat * 2 + 1)) = ds at *
    have f0 : (i + 1).toNat = i.toNat + 1 := by omega
    clear hI hz1
    generalize y_txtL : @txtL = x_txtL at *
    (repeat' first | ((first | with_reducible refine tr_cut (fun h => ?_) (fun h => ?_) | refine aw_condj (by cbv) (fun h => ?_) (fun h => ?_)) <;> (try simp (disch := omega) only [hj, std, cmpI, cmpB, satB, Bool.not_eq_true, Bool.not_eq_false, decide_eq_true_eq, decide_eq_false_iff_not, beq_iff_eq, bne_iff_ne, bne_eq_false_iff_eq, beq_eq_false_iff_ne, ne_eq, reduceCtorEq, not_true_eq_false, not_false_eq_true, pl0, if_true, cmpS_eq, cmpS_neq, Bool.not_eq_eq_eq_not, Bool.not_true, Bool.not_false, Bool.not_eq_true', e1, ite0, add64, sub64] at h) <;> (try (exfalso; omega))) | (with_reducible refine tr_alt (fun h => ?_) ?_ <;> (try (exfalso; omega))) | (with_reducible refine tr_ob ?_ ?_) | (with_reducible refine tr_done ?_) | (refine aw_tr hj tok book0 (by cbv) ?_) | (refine aw_seq fun K hK => ?_) | (refine aw_tr1 hj tok book0 (by cbv) ?_) | (refine aw_skip ?_) | (refine aw_block ?_) | (refine aw_exit ?_) | (refine aw_ret ⟨.inr rfl, ret_okj hj (by cbv) ?_ ?_⟩) | (refine aw_ret ?_) | (with_reducible refine th_n ?_) | (with_reducible refine th_r ?_) | (with_reducible refine th_x ?_) | (with_reducible refine blk_n ?_) | (with_reducible refine blk_r ?_) | (with_reducible refine blk_x ?_) | (with_reducible refine blk_y rfl ?_) | (refine ⟨.inr rfl, ret_okj hj (by cbv) ?_ ?_⟩) | (refine ⟨.inl rfl, ret_okj hj (by cbv) ?_ ?_⟩) | ((with_reducible refine ⟨(_, _), by cbv, ?_, ?_⟩)) | ((with_reducible refine ⟨_, by cbv, ?_, ?_⟩)) | (with_reducible apply_assumption -symm -exfalso only [*]))
    all_goals ((try subst y_txtL))
    all_goals (try (repeat' first | with_reducible exact obl0 | with_reducible refine obl1 ?_ ?_))
    all_goals (try first | with_reducible exact True.intro | ((first | refine ob_le hj ?_ | refine ob_lei hj ?_ | refine ob_inb hj ?_ | refine ob_pos hj ?_ | refine ob_ne0 hj ?_ | refine ob_eqb hj ?_); (first | rfl | first | omega | (simp only [hj, std]; split <;> omega) | (simp (disch := omega) only [hj, std, cmpI, cmpB, satB, add64, sub64, ite0, pl0, pl2, pl3, sb0, if_true, if_false, eq_self, hcl, e1, hz3] <;> omega) | (simp (disch := omega) [hj, std, cmpI, cmpB, satB, add64, sub64, ite0, pl0, pl2, pl3, sb0, if_true, if_false, eq_self, hcl, e1, hz3] <;> omega))) | ((refine ob_ok hj ?_; simp only [hj, std, ite0, b1]; exact ⟨_, rfl⟩)) | ((rw [hj]; simp only [std, e1]; first | (show _ + _ ≤ _; omega) | (show (o ++ nm).size + 2 ≤ _; omega))))
    generalize hT1 : altsT false As (o ++ nm ++ colB) = T1 at *
    refine aw_lpj hj [(0, .keep), (3, .keep), (4, .keep), (5, .keep)] [] (fun (⟨k, o2⟩ : Int × ByteArray) => stOf 76 [(0, .one (.c (.sl n cs))), (3, .one (.c (vS o2))), (4, .one (.c (vI i))), (5, .one (.c (vI k)))] []) (fun (⟨k, o2⟩ : Int × ByteArray) => As.length - k.toNat) (fun (⟨k, o2⟩ : Int × ByteArray) => 0 ≤ k ∧ k ≤ As.length ∧ altsT (decide (0 < k)) (As.drop k.toNat) o2 = T1) ((0, _)) (by generalize @txtL = x_txtL; cbv) ?_ (fun ⟨k, o2⟩ hI => ?_)
    · simp only [hj, std, ite0, e1]; exact ⟨by omega, by omega, hT1⟩
    obtain ⟨k1, k2, hK⟩ := hI
    have hz5 : T1.size ≤ 1099511627776 := by rw [ByteArray.size_append] at hz4; omega
    rcases Decidable.em (k < (As.length : Int)) with hk | hk
    · obtain ⟨c1, c2, c3⟩ := l2 k.toNat (by omega)
      have hBl := hB _ (aAt_mem (A := As) (i := k.toNat) (by omega))
      rw [drop_aAt (by omega : k.toNat < As.length)] at hK
      have hK2 : altsT true (As.drop (k.toNat + 1)) (itsT (aAt As k.toNat) (barT (decide (0 < k)) o2)) = T1 := hK
      have hz6 : (itsT (aAt As k.toNat) (barT (decide (0 < k)) o2)).size ≤ 1099511627776 := by
        have h1 := altsT_sz (As.drop (k.toNat + 1)) true (itsT (aAt As k.toNat) (barT (decide (0 < k)) o2))
        rw [hK2] at h1; omega
      clear hK
      generalize aAt As k.toNat = It0 at *
      have hz7 := itsT_sz It0 (barT (decide (0 < k)) o2)
      have c4 : (gc (cellAt ds k.toNat)).length = It0.length * 2 := by rw [c3]; exact itC_len It0
      have hbT : 0 < k → barT (decide (0 < k)) o2 = o2 ++ barB := fun h => by rw [decide_eq_true h]; rfl
      have hbF : ¬ 0 < k → barT (decide (0 < k)) o2 = o2 := fun h => by rw [decide_eq_false h]; rfl
      have hz8 : 0 < k → o2.size + 2 ≤ 1099511627776 := fun h => by rw [hbT h] at hz6 hz7; rw [ByteArray.size_append] at hz7; have e2 : barB.size = 2 := rfl; omega
      generalize hT2 : itsT It0 (barT (decide (0 < k)) o2) = T2 at *
      generalize y_txtL : @txtL = x_txtL at *
      (repeat' first | ((first | with_reducible refine tr_cut (fun h => ?_) (fun h => ?_) | refine aw_condj (by cbv) (fun h => ?_) (fun h => ?_)) <;> (try simp (disch := omega) only [hj, std, cmpI, cmpB, satB, Bool.not_eq_true, Bool.not_eq_false, decide_eq_true_eq, decide_eq_false_iff_not, beq_iff_eq, bne_iff_ne, bne_eq_false_iff_eq, beq_eq_false_iff_ne, ne_eq, reduceCtorEq, not_true_eq_false, not_false_eq_true, pl0, if_true, cmpS_eq, cmpS_neq, Bool.not_eq_eq_eq_not, Bool.not_true, Bool.not_false, Bool.not_eq_true', ite0, b3, hds, add64, sub64] at h) <;> (try (exfalso; omega))) | (with_reducible refine tr_alt (fun h => ?_) ?_ <;> (try (exfalso; omega))) | (with_reducible refine tr_ob ?_ ?_) | (with_reducible refine tr_done ?_) | (refine aw_tr hj tok book0 (by cbv) ?_) | (refine aw_seq fun K hK => ?_) | (refine aw_tr1 hj tok book0 (by cbv) ?_) | (refine aw_skip ?_) | (refine aw_block ?_) | (refine aw_exit ?_) | (refine aw_ret ⟨.inr rfl, ret_okj hj (by cbv) ?_ ?_⟩) | (refine aw_ret ?_) | (with_reducible refine th_n ?_) | (with_reducible refine th_r ?_) | (with_reducible refine th_x ?_) | (with_reducible refine blk_n ?_) | (with_reducible refine blk_r ?_) | (with_reducible refine blk_x ?_) | (with_reducible refine blk_y rfl ?_) | (refine ⟨.inr rfl, ret_okj hj (by cbv) ?_ ?_⟩) | (refine ⟨.inl rfl, ret_okj hj (by cbv) ?_ ?_⟩) | ((with_reducible refine ⟨(_, _), by cbv, ?_, ?_⟩)) | ((with_reducible refine ⟨_, by cbv, ?_, ?_⟩)) | (with_reducible apply_assumption -symm -exfalso only [*]))
      all_goals ((try subst y_txtL))
      all_goals (try (repeat' first | with_reducible exact obl0 | with_reducible refine obl1 ?_ ?_))
      all_goals (try first | with_reducible exact True.intro | ((first | refine ob_le hj ?_ | refine ob_lei hj ?_ | refine ob_inb hj ?_ | refine ob_pos hj ?_ | refine ob_ne0 hj ?_ | refine ob_eqb hj ?_); (first | rfl | first | omega | (simp only [hj, std]; split <;> omega) | (simp (disch := omega) only [hj, std, cmpI, cmpB, satB, add64, sub64, ite0, pl0, pl2, pl3, sb0, if_true, if_false, eq_self, hcl, b3, hds] <;> omega) | (simp (disch := omega) [hj, std, cmpI, cmpB, satB, add64, sub64, ite0, pl0, pl2, pl3, sb0, if_true, if_false, eq_self, hcl, b3, hds] <;> omega))) | ((refine ob_ok hj ?_; simp only [hj, std, ite0, hds]; first | exact b2 | exact c1)) | ((rw [hj]; have w8 := hz8 (by assumption); exact (show o2.size + 2 ≤ 9223372036854775807 by omega))))
      · have hT2 : itsT It0 (o2 ++ barB) = T2 := by rw [← hbT (by omega)]; exact hT2
        refine aw_lpj hj [(0, .keep), (3, .keep), (4, .keep), (5, .keep), (6, .keep)] [] (fun (⟨q, o3⟩ : Int × ByteArray) => stOf 76 [(0, .one (.c (.sl n cs))), (3, .one (.c (vS o3))), (4, .one (.c (vI i))), (5, .one (.c (vI k))), (6, .one (.c (vI q)))] []) (fun (⟨q, o3⟩ : Int × ByteArray) => It0.length - q.toNat) (fun (⟨q, o3⟩ : Int × ByteArray) => 0 ≤ q ∧ q ≤ It0.length ∧ itsT (It0.drop q.toNat) o3 = T2) ((0, _)) (by generalize @txtL = x_txtL; cbv) ?_ (fun ⟨q, o3⟩ hI => ?_)
        · (try rw [hj]); exact ⟨by omega, by omega, hT2⟩
        obtain ⟨q1, q2, hQ⟩ := hI
        rcases Decidable.em (q < (It0.length : Int)) with hq | hq
        · obtain ⟨d1, d2⟩ := at_itC (a := It0) (i := q.toNat) (by omega)
          rw [drop_tAt (by omega : q.toNat < It0.length)] at hQ
          have hQ2 : itsT (It0.drop (q.toNat + 1)) (o3 ++ itT (tAt It0 q.toNat)) = T2 := hQ
          have hz9 : (o3 ++ itT (tAt It0 q.toNat)).size ≤ 1099511627776 := by
            have h1 := itsT_sz (It0.drop (q.toNat + 1)) (o3 ++ itT (tAt It0 q.toNat))
            rw [hQ2] at h1; omega
          clear hQ
          rw [← c3] at d1 d2
          generalize tAt It0 q.toNat = Y at *
          obtain ⟨bb, t⟩ := Y
          dsimp only at d1 d2
          have f1 : gb (cellAt (gc (cellAt ds k.toNat)) (q.toNat * 2)) = bb := by rw [d1]; rfl
          have f2 : gs (cellAt (gc (cellAt ds k.toNat)) (q.toNat * 2 + 1)) = t := by rw [d2]; rfl
          have f3 : (q + 1).toNat = q.toNat + 1 := by omega
          have g1 : bb = true → o3 ++ sqB ++ t ++ quB = o3 ++ itT (bb, t) ∧ o3.size + t.size + 3 ≤ 1099511627776 := fun h => by
            subst h
            refine ⟨by unfold itT; rw [if_pos rfl]; simp only [ByteArray.append_assoc], ?_⟩
            have h2 : (o3 ++ itT (true, t)).size = o3.size + (2 + t.size + 1) := by
              unfold itT; rw [if_pos rfl]; rw [ByteArray.size_append, ByteArray.size_append, ByteArray.size_append]; rfl
            omega
          have g2 : bb = false → o3 ++ spB ++ t = o3 ++ itT (bb, t) ∧ o3.size + t.size + 1 ≤ 1099511627776 := fun h => by
            subst h
            refine ⟨by unfold itT; rw [if_neg (by simp)]; simp only [ByteArray.append_assoc], ?_⟩
            have h2 : (o3 ++ itT (false, t)).size = o3.size + (1 + t.size) := by
              unfold itT; rw [if_neg (by simp)]; rw [ByteArray.size_append, ByteArray.size_append]; rfl
            omega
          have w1 : (o3 ++ sqB).size = o3.size + 2 := ByteArray.size_append
          have w2 : (o3 ++ sqB ++ t).size = o3.size + 2 + t.size := by rw [ByteArray.size_append, w1]
          have w3 : (o3 ++ spB).size = o3.size + 1 := ByteArray.size_append
          generalize y_txtL : @txtL = x_txtL at *
          (repeat' first | ((first | with_reducible refine tr_cut (fun h => ?_) (fun h => ?_) | refine aw_condj (by cbv) (fun h => ?_) (fun h => ?_)) <;> (try simp (disch := omega) only [hj, std, cmpI, cmpB, satB, Bool.not_eq_true, Bool.not_eq_false, decide_eq_true_eq, decide_eq_false_iff_not, beq_iff_eq, bne_iff_ne, bne_eq_false_iff_eq, beq_eq_false_iff_ne, ne_eq, reduceCtorEq, not_true_eq_false, not_false_eq_true, pl0, if_true, cmpS_eq, cmpS_neq, Bool.not_eq_eq_eq_not, Bool.not_true, Bool.not_false, Bool.not_eq_true', ite0, b3, hds, c2, f1, f2, add64, sub64] at h) <;> (try (exfalso; omega))) | (with_reducible refine tr_alt (fun h => ?_) ?_ <;> (try (exfalso; omega))) | (with_reducible refine tr_ob ?_ ?_) | (with_reducible refine tr_done ?_) | (refine aw_tr hj tok book0 (by cbv) ?_) | (refine aw_seq fun K hK => ?_) | (refine aw_tr1 hj tok book0 (by cbv) ?_) | (refine aw_skip ?_) | (refine aw_block ?_) | (refine aw_exit ?_) | (refine aw_ret ⟨.inr rfl, ret_okj hj (by cbv) ?_ ?_⟩) | (refine aw_ret ?_) | (with_reducible refine th_n ?_) | (with_reducible refine th_r ?_) | (with_reducible refine th_x ?_) | (with_reducible refine blk_n ?_) | (with_reducible refine blk_r ?_) | (with_reducible refine blk_x ?_) | (with_reducible refine blk_y rfl ?_) | (refine ⟨.inr rfl, ret_okj hj (by cbv) ?_ ?_⟩) | (refine ⟨.inl rfl, ret_okj hj (by cbv) ?_ ?_⟩) | ((with_reducible refine ⟨(_, _), by cbv, ?_, ?_⟩)) | ((with_reducible refine ⟨_, by cbv, ?_, ?_⟩)) | (with_reducible apply_assumption -symm -exfalso only [*]))
          all_goals ((try subst y_txtL))
          all_goals (try (have gg : bb = true := (by assumption); obtain ⟨v1, v2⟩ := g1 gg))
          all_goals (try (have gg : bb = false := (by assumption); obtain ⟨v1, v2⟩ := g2 gg))
          all_goals (try (repeat' first | with_reducible exact obl0 | with_reducible refine obl1 ?_ ?_))
          all_goals (try first | with_reducible exact True.intro | ((first | refine ob_le hj ?_ | refine ob_lei hj ?_ | refine ob_inb hj ?_ | refine ob_pos hj ?_ | refine ob_ne0 hj ?_ | refine ob_eqb hj ?_); (first | rfl | first | omega | (simp only [hj, std]; split <;> omega) | (simp (disch := omega) only [hj, std, cmpI, cmpB, satB, add64, sub64, ite0, pl0, pl2, pl3, sb0, if_true, if_false, eq_self, hcl, b3, hds, l1, c2, c4, f1, f2] <;> omega) | (simp (disch := omega) [hj, std, cmpI, cmpB, satB, add64, sub64, ite0, pl0, pl2, pl3, sb0, if_true, if_false, eq_self, hcl, b3, hds, l1, c2, c4, f1, f2] <;> omega))) | ((refine ob_ok hj ?_; simp only [hj, std, ite0, hds, d1, d2]; first | exact b2 | exact c1 | exact ⟨_, rfl⟩)) | ((simp only [hj, std, ite0, hds, f2]; first | exact (show o3.size + 2 ≤ 9223372036854775807 by omega) | exact (show (o3 ++ sqB).size + t.size ≤ 9223372036854775807 by omega) | exact (show (o3 ++ sqB ++ t).size + 1 ≤ 9223372036854775807 by omega) | exact (show o3.size + 1 ≤ 9223372036854775807 by omega) | exact (show (o3 ++ spB).size + t.size ≤ 9223372036854775807 by omega))) | ((simp (disch := omega) only [hj, std, add64, ite0, hds, f2]; first | omega | (refine ⟨by omega, by omega, ?_⟩; rw [f3]; first | exact (congrArg _ v1).trans hQ2))))
        · have hfq : o3 = T2 := by rw [List.drop_eq_nil_of_le (by omega)] at hQ; exact hQ
          have f3 : (k + 1).toNat = k.toNat + 1 := by omega
          generalize y_txtL : @txtL = x_txtL at *
          (repeat' first | ((first | with_reducible refine tr_cut (fun h => ?_) (fun h => ?_) | refine aw_condj (by cbv) (fun h => ?_) (fun h => ?_)) <;> (try simp (disch := omega) only [hj, std, cmpI, cmpB, satB, Bool.not_eq_true, Bool.not_eq_false, decide_eq_true_eq, decide_eq_false_iff_not, beq_iff_eq, bne_iff_ne, bne_eq_false_iff_eq, beq_eq_false_iff_ne, ne_eq, reduceCtorEq, not_true_eq_false, not_false_eq_true, pl0, if_true, cmpS_eq, cmpS_neq, Bool.not_eq_eq_eq_not, Bool.not_true, Bool.not_false, Bool.not_eq_true', ite0, b3, hds, c2, add64, sub64] at h) <;> (try (exfalso; omega))) | (with_reducible refine tr_alt (fun h => ?_) ?_ <;> (try (exfalso; omega))) | (with_reducible refine tr_ob ?_ ?_) | (with_reducible refine tr_done ?_) | (refine aw_tr hj tok book0 (by cbv) ?_) | (refine aw_seq fun K hK => ?_) | (refine aw_tr1 hj tok book0 (by cbv) ?_) | (refine aw_skip ?_) | (refine aw_block ?_) | (refine aw_exit ?_) | (refine aw_ret ⟨.inr rfl, ret_okj hj (by cbv) ?_ ?_⟩) | (refine aw_ret ?_) | (with_reducible refine th_n ?_) | (with_reducible refine th_r ?_) | (with_reducible refine th_x ?_) | (with_reducible refine blk_n ?_) | (with_reducible refine blk_r ?_) | (with_reducible refine blk_x ?_) | (with_reducible refine blk_y rfl ?_) | (refine ⟨.inr rfl, ret_okj hj (by cbv) ?_ ?_⟩) | (refine ⟨.inl rfl, ret_okj hj (by cbv) ?_ ?_⟩) | ((with_reducible refine ⟨(_, _), by cbv, ?_, ?_⟩)) | ((with_reducible refine ⟨_, by cbv, ?_, ?_⟩)) | (with_reducible apply_assumption -symm -exfalso only [*]))
          all_goals ((try subst y_txtL))
          all_goals (try (repeat' first | with_reducible exact obl0 | with_reducible refine obl1 ?_ ?_))
          all_goals (try first | with_reducible exact True.intro | ((first | refine ob_le hj ?_ | refine ob_lei hj ?_ | refine ob_inb hj ?_ | refine ob_pos hj ?_ | refine ob_ne0 hj ?_ | refine ob_eqb hj ?_); (first | rfl | first | omega | (simp only [hj, std]; split <;> omega) | (simp (disch := omega) only [hj, std, cmpI, cmpB, satB, add64, sub64, ite0, pl0, pl2, pl3, sb0, if_true, if_false, eq_self, hcl, b3, hds, l1, c2] <;> omega) | (simp (disch := omega) [hj, std, cmpI, cmpB, satB, add64, sub64, ite0, pl0, pl2, pl3, sb0, if_true, if_false, eq_self, hcl, b3, hds, l1, c2] <;> omega))) | ((refine ob_ok hj ?_; simp only [hj, std, ite0, hds]; first | exact b2 | exact c1)) | ((simp (disch := omega) only [hj, std, add64, ite0]; first | omega | (refine ⟨by omega, by omega, ?_⟩; rw [f3, hfq, decide_eq_true (by omega : (0 : Int) < k + 1)]; exact hK2))))
      · have hT2 : itsT It0 (o2) = T2 := by rw [hbF (by omega)] at hT2; exact hT2
        refine aw_lpj hj [(0, .keep), (3, .keep), (4, .keep), (5, .keep), (6, .keep)] [] (fun (⟨q, o3⟩ : Int × ByteArray) => stOf 76 [(0, .one (.c (.sl n cs))), (3, .one (.c (vS o3))), (4, .one (.c (vI i))), (5, .one (.c (vI k))), (6, .one (.c (vI q)))] []) (fun (⟨q, o3⟩ : Int × ByteArray) => It0.length - q.toNat) (fun (⟨q, o3⟩ : Int × ByteArray) => 0 ≤ q ∧ q ≤ It0.length ∧ itsT (It0.drop q.toNat) o3 = T2) ((0, _)) (by generalize @txtL = x_txtL; cbv) ?_ (fun ⟨q, o3⟩ hI => ?_)
        · (try rw [hj]); exact ⟨by omega, by omega, hT2⟩
        obtain ⟨q1, q2, hQ⟩ := hI
        rcases Decidable.em (q < (It0.length : Int)) with hq | hq
        · obtain ⟨d1, d2⟩ := at_itC (a := It0) (i := q.toNat) (by omega)
          rw [drop_tAt (by omega : q.toNat < It0.length)] at hQ
          have hQ2 : itsT (It0.drop (q.toNat + 1)) (o3 ++ itT (tAt It0 q.toNat)) = T2 := hQ
          have hz9 : (o3 ++ itT (tAt It0 q.toNat)).size ≤ 1099511627776 := by
            have h1 := itsT_sz (It0.drop (q.toNat + 1)) (o3 ++ itT (tAt It0 q.toNat))
            rw [hQ2] at h1; omega
          clear hQ
          rw [← c3] at d1 d2
          generalize tAt It0 q.toNat = Y at *
          obtain ⟨bb, t⟩ := Y
          dsimp only at d1 d2
          have f1 : gb (cellAt (gc (cellAt ds k.toNat)) (q.toNat * 2)) = bb := by rw [d1]; rfl
          have f2 : gs (cellAt (gc (cellAt ds k.toNat)) (q.toNat * 2 + 1)) = t := by rw [d2]; rfl
          have f3 : (q + 1).toNat = q.toNat + 1 := by omega
          have g1 : bb = true → o3 ++ sqB ++ t ++ quB = o3 ++ itT (bb, t) ∧ o3.size + t.size + 3 ≤ 1099511627776 := fun h => by
            subst h
            refine ⟨by unfold itT; rw [if_pos rfl]; simp only [ByteArray.append_assoc], ?_⟩
            have h2 : (o3 ++ itT (true, t)).size = o3.size + (2 + t.size + 1) := by
              unfold itT; rw [if_pos rfl]; rw [ByteArray.size_append, ByteArray.size_append, ByteArray.size_append]; rfl
            omega
          have g2 : bb = false → o3 ++ spB ++ t = o3 ++ itT (bb, t) ∧ o3.size + t.size + 1 ≤ 1099511627776 := fun h => by
            subst h
            refine ⟨by unfold itT; rw [if_neg (by simp)]; simp only [ByteArray.append_assoc], ?_⟩
            have h2 : (o3 ++ itT (false, t)).size = o3.size + (1 + t.size) := by
              unfold itT; rw [if_neg (by simp)]; rw [ByteArray.size_append, ByteArray.size_append]; rfl
            omega
          have w1 : (o3 ++ sqB).size = o3.size + 2 := ByteArray.size_append
          have w2 : (o3 ++ sqB ++ t).size = o3.size + 2 + t.size := by rw [ByteArray.size_append, w1]
          have w3 : (o3 ++ spB).size = o3.size + 1 := ByteArray.size_append
          generalize y_txtL : @txtL = x_txtL at *
          (repeat' first | ((first | with_reducible refine tr_cut (fun h => ?_) (fun h => ?_) | refine aw_condj (by cbv) (fun h => ?_) (fun h => ?_)) <;> (try simp (disch := omega) only [hj, std, cmpI, cmpB, satB, Bool.not_eq_true, Bool.not_eq_false, decide_eq_true_eq, decide_eq_false_iff_not, beq_iff_eq, bne_iff_ne, bne_eq_false_iff_eq, beq_eq_false_iff_ne, ne_eq, reduceCtorEq, not_true_eq_false, not_false_eq_true, pl0, if_true, cmpS_eq, cmpS_neq, Bool.not_eq_eq_eq_not, Bool.not_true, Bool.not_false, Bool.not_eq_true', ite0, b3, hds, c2, f1, f2, add64, sub64] at h) <;> (try (exfalso; omega))) | (with_reducible refine tr_alt (fun h => ?_) ?_ <;> (try (exfalso; omega))) | (with_reducible refine tr_ob ?_ ?_) | (with_reducible refine tr_done ?_) | (refine aw_tr hj tok book0 (by cbv) ?_) | (refine aw_seq fun K hK => ?_) | (refine aw_tr1 hj tok book0 (by cbv) ?_) | (refine aw_skip ?_) | (refine aw_block ?_) | (refine aw_exit ?_) | (refine aw_ret ⟨.inr rfl, ret_okj hj (by cbv) ?_ ?_⟩) | (refine aw_ret ?_) | (with_reducible refine th_n ?_) | (with_reducible refine th_r ?_) | (with_reducible refine th_x ?_) | (with_reducible refine blk_n ?_) | (with_reducible refine blk_r ?_) | (with_reducible refine blk_x ?_) | (with_reducible refine blk_y rfl ?_) | (refine ⟨.inr rfl, ret_okj hj (by cbv) ?_ ?_⟩) | (refine ⟨.inl rfl, ret_okj hj (by cbv) ?_ ?_⟩) | ((with_reducible refine ⟨(_, _), by cbv, ?_, ?_⟩)) | ((with_reducible refine ⟨_, by cbv, ?_, ?_⟩)) | (with_reducible apply_assumption -symm -exfalso only [*]))
          all_goals ((try subst y_txtL))
          all_goals (try (have gg : bb = true := (by assumption); obtain ⟨v1, v2⟩ := g1 gg))
          all_goals (try (have gg : bb = false := (by assumption); obtain ⟨v1, v2⟩ := g2 gg))
          all_goals (try (repeat' first | with_reducible exact obl0 | with_reducible refine obl1 ?_ ?_))
          all_goals (try first | with_reducible exact True.intro | ((first | refine ob_le hj ?_ | refine ob_lei hj ?_ | refine ob_inb hj ?_ | refine ob_pos hj ?_ | refine ob_ne0 hj ?_ | refine ob_eqb hj ?_); (first | rfl | first | omega | (simp only [hj, std]; split <;> omega) | (simp (disch := omega) only [hj, std, cmpI, cmpB, satB, add64, sub64, ite0, pl0, pl2, pl3, sb0, if_true, if_false, eq_self, hcl, b3, hds, l1, c2, c4, f1, f2] <;> omega) | (simp (disch := omega) [hj, std, cmpI, cmpB, satB, add64, sub64, ite0, pl0, pl2, pl3, sb0, if_true, if_false, eq_self, hcl, b3, hds, l1, c2, c4, f1, f2] <;> omega))) | ((refine ob_ok hj ?_; simp only [hj, std, ite0, hds, d1, d2]; first | exact b2 | exact c1 | exact ⟨_, rfl⟩)) | ((simp only [hj, std, ite0, hds, f2]; first | exact (show o3.size + 2 ≤ 9223372036854775807 by omega) | exact (show (o3 ++ sqB).size + t.size ≤ 9223372036854775807 by omega) | exact (show (o3 ++ sqB ++ t).size + 1 ≤ 9223372036854775807 by omega) | exact (show o3.size + 1 ≤ 9223372036854775807 by omega) | exact (show (o3 ++ spB).size + t.size ≤ 9223372036854775807 by omega))) | ((simp (disch := omega) only [hj, std, add64, ite0, hds, f2]; first | omega | (refine ⟨by omega, by omega, ?_⟩; rw [f3]; first | exact (congrArg _ v1).trans hQ2))))
        · have hfq : o3 = T2 := by rw [List.drop_eq_nil_of_le (by omega)] at hQ; exact hQ
          have f3 : (k + 1).toNat = k.toNat + 1 := by omega
          generalize y_txtL : @txtL = x_txtL at *
          (repeat' first | ((first | with_reducible refine tr_cut (fun h => ?_) (fun h => ?_) | refine aw_condj (by cbv) (fun h => ?_) (fun h => ?_)) <;> (try simp (disch := omega) only [hj, std, cmpI, cmpB, satB, Bool.not_eq_true, Bool.not_eq_false, decide_eq_true_eq, decide_eq_false_iff_not, beq_iff_eq, bne_iff_ne, bne_eq_false_iff_eq, beq_eq_false_iff_ne, ne_eq, reduceCtorEq, not_true_eq_false, not_false_eq_true, pl0, if_true, cmpS_eq, cmpS_neq, Bool.not_eq_eq_eq_not, Bool.not_true, Bool.not_false, Bool.not_eq_true', ite0, b3, hds, c2, add64, sub64] at h) <;> (try (exfalso; omega))) | (with_reducible refine tr_alt (fun h => ?_) ?_ <;> (try (exfalso; omega))) | (with_reducible refine tr_ob ?_ ?_) | (with_reducible refine tr_done ?_) | (refine aw_tr hj tok book0 (by cbv) ?_) | (refine aw_seq fun K hK => ?_) | (refine aw_tr1 hj tok book0 (by cbv) ?_) | (refine aw_skip ?_) | (refine aw_block ?_) | (refine aw_exit ?_) | (refine aw_ret ⟨.inr rfl, ret_okj hj (by cbv) ?_ ?_⟩) | (refine aw_ret ?_) | (with_reducible refine th_n ?_) | (with_reducible refine th_r ?_) | (with_reducible refine th_x ?_) | (with_reducible refine blk_n ?_) | (with_reducible refine blk_r ?_) | (with_reducible refine blk_x ?_) | (with_reducible refine blk_y rfl ?_) | (refine ⟨.inr rfl, ret_okj hj (by cbv) ?_ ?_⟩) | (refine ⟨.inl rfl, ret_okj hj (by cbv) ?_ ?_⟩) | ((with_reducible refine ⟨(_, _), by cbv, ?_, ?_⟩)) | ((with_reducible refine ⟨_, by cbv, ?_, ?_⟩)) | (with_reducible apply_assumption -symm -exfalso only [*]))
          all_goals ((try subst y_txtL))
          all_goals (try (repeat' first | with_reducible exact obl0 | with_reducible refine obl1 ?_ ?_))
          all_goals (try first | with_reducible exact True.intro | ((first | refine ob_le hj ?_ | refine ob_lei hj ?_ | refine ob_inb hj ?_ | refine ob_pos hj ?_ | refine ob_ne0 hj ?_ | refine ob_eqb hj ?_); (first | rfl | first | omega | (simp only [hj, std]; split <;> omega) | (simp (disch := omega) only [hj, std, cmpI, cmpB, satB, add64, sub64, ite0, pl0, pl2, pl3, sb0, if_true, if_false, eq_self, hcl, b3, hds, l1, c2] <;> omega) | (simp (disch := omega) [hj, std, cmpI, cmpB, satB, add64, sub64, ite0, pl0, pl2, pl3, sb0, if_true, if_false, eq_self, hcl, b3, hds, l1, c2] <;> omega))) | ((refine ob_ok hj ?_; simp only [hj, std, ite0, hds]; first | exact b2 | exact c1)) | ((simp (disch := omega) only [hj, std, add64, ite0]; first | omega | (refine ⟨by omega, by omega, ?_⟩; rw [f3, hfq, decide_eq_true (by omega : (0 : Int) < k + 1)]; exact hK2))))
    · have hfk : o2 = T1 := by rw [List.drop_eq_nil_of_le (by omega)] at hK; exact hK
      have hz10 : T1.size + 3 ≤ 1099511627776 := by rw [ByteArray.size_append] at hz4; exact hz4
      generalize y_txtL : @txtL = x_txtL at *
      (repeat' first | ((first | with_reducible refine tr_cut (fun h => ?_) (fun h => ?_) | refine aw_condj (by cbv) (fun h => ?_) (fun h => ?_)) <;> (try simp (disch := omega) only [hj, std, cmpI, cmpB, satB, Bool.not_eq_true, Bool.not_eq_false, decide_eq_true_eq, decide_eq_false_iff_not, beq_iff_eq, bne_iff_ne, bne_eq_false_iff_eq, beq_eq_false_iff_ne, ne_eq, reduceCtorEq, not_true_eq_false, not_false_eq_true, pl0, if_true, cmpS_eq, cmpS_neq, Bool.not_eq_eq_eq_not, Bool.not_true, Bool.not_false, Bool.not_eq_true', ite0, b3, add64, sub64] at h) <;> (try (exfalso; omega))) | (with_reducible refine tr_alt (fun h => ?_) ?_ <;> (try (exfalso; omega))) | (with_reducible refine tr_ob ?_ ?_) | (with_reducible refine tr_done ?_) | (refine aw_tr hj tok book0 (by cbv) ?_) | (refine aw_seq fun K hK => ?_) | (refine aw_tr1 hj tok book0 (by cbv) ?_) | (refine aw_skip ?_) | (refine aw_block ?_) | (refine aw_exit ?_) | (refine aw_ret ⟨.inr rfl, ret_okj hj (by cbv) ?_ ?_⟩) | (refine aw_ret ?_) | (with_reducible refine th_n ?_) | (with_reducible refine th_r ?_) | (with_reducible refine th_x ?_) | (with_reducible refine blk_n ?_) | (with_reducible refine blk_r ?_) | (with_reducible refine blk_x ?_) | (with_reducible refine blk_y rfl ?_) | (refine ⟨.inr rfl, ret_okj hj (by cbv) ?_ ?_⟩) | (refine ⟨.inl rfl, ret_okj hj (by cbv) ?_ ?_⟩) | ((with_reducible refine ⟨(_, _), by cbv, ?_, ?_⟩)) | ((with_reducible refine ⟨_, by cbv, ?_, ?_⟩)) | (with_reducible apply_assumption -symm -exfalso only [*]))
      all_goals ((try subst y_txtL))
      all_goals (try (repeat' first | with_reducible exact obl0 | with_reducible refine obl1 ?_ ?_))
      all_goals (try first | with_reducible exact True.intro | ((first | refine ob_le hj ?_ | refine ob_lei hj ?_ | refine ob_inb hj ?_ | refine ob_pos hj ?_ | refine ob_ne0 hj ?_ | refine ob_eqb hj ?_); (first | rfl | first | omega | (simp only [hj, std]; split <;> omega) | (simp (disch := omega) only [hj, std, cmpI, cmpB, satB, add64, sub64, ite0, pl0, pl2, pl3, sb0, if_true, if_false, eq_self, hcl, b3] <;> omega) | (simp (disch := omega) [hj, std, cmpI, cmpB, satB, add64, sub64, ite0, pl0, pl2, pl3, sb0, if_true, if_false, eq_self, hcl, b3] <;> omega))) | ((refine ob_ok hj ?_; simp only [hj, std, ite0]; exact b2)) | ((rw [hj, hfk]; exact (show T1.size + 3 ≤ 9223372036854775807 by omega))) | ((simp (disch := omega) only [hj, std, add64, ite0]; first | omega | (refine ⟨by omega, by omega, ?_⟩; rw [f0, hfk]; exact hI2))))
  · have hfin : o = txtL L := by rw [show i.toNat = n by omega, hend] at hI; exact hI
    generalize y_txtL : @txtL = x_txtL at *
    (repeat' first | ((first | with_reducible refine tr_cut (fun h => ?_) (fun h => ?_) | refine aw_condj (by cbv) (fun h => ?_) (fun h => ?_)) <;> (try simp (disch := omega) only [hj, std, cmpI, cmpB, satB, Bool.not_eq_true, Bool.not_eq_false, decide_eq_true_eq, decide_eq_false_iff_not, beq_iff_eq, bne_iff_ne, bne_eq_false_iff_eq, beq_eq_false_iff_ne, ne_eq, reduceCtorEq, not_true_eq_false, not_false_eq_true, pl0, if_true, cmpS_eq, cmpS_neq, Bool.not_eq_eq_eq_not, Bool.not_true, Bool.not_false, Bool.not_eq_true', add64, sub64] at h) <;> (try (exfalso; omega))) | (with_reducible refine tr_alt (fun h => ?_) ?_ <;> (try (exfalso; omega))) | (with_reducible refine tr_ob ?_ ?_) | (with_reducible refine tr_done ?_) | (refine aw_tr hj tok book0 (by cbv) ?_) | (refine aw_seq fun K hK => ?_) | (refine aw_tr1 hj tok book0 (by cbv) ?_) | (refine aw_skip ?_) | (refine aw_block ?_) | (refine aw_exit ?_) | (refine aw_ret ⟨.inr rfl, ret_okj hj (by cbv) ?_ ?_⟩) | (refine aw_ret ?_) | (with_reducible refine th_n ?_) | (with_reducible refine th_r ?_) | (with_reducible refine th_x ?_) | (with_reducible refine blk_n ?_) | (with_reducible refine blk_r ?_) | (with_reducible refine blk_x ?_) | (with_reducible refine blk_y rfl ?_) | (refine ⟨.inr rfl, ret_okj hj (by cbv) ?_ ?_⟩) | (refine ⟨.inl rfl, ret_okj hj (by cbv) ?_ ?_⟩) | ((with_reducible refine ⟨(_, _), by cbv, ?_, ?_⟩)) | ((with_reducible refine ⟨_, by cbv, ?_, ?_⟩)) | (with_reducible apply_assumption -symm -exfalso only [*]))
    all_goals ((try subst y_txtL))
    all_goals (try (repeat' first | with_reducible exact obl0 | with_reducible refine obl1 ?_ ?_))
    all_goals (try first | with_reducible exact True.intro | ((first | refine ob_le hj ?_ | refine ob_lei hj ?_ | refine ob_inb hj ?_ | refine ob_pos hj ?_ | refine ob_ne0 hj ?_ | refine ob_eqb hj ?_); (first | rfl | first | omega | (simp only [hj, std]; split <;> omega) | (simp (disch := omega) only [hj, std, cmpI, cmpB, satB, add64, sub64, ite0, pl0, pl2, pl3, sb0, if_true, if_false, eq_self] <;> omega) | (simp (disch := omega) [hj, std, cmpI, cmpB, satB, add64, sub64, ite0, pl0, pl2, pl3, sb0, if_true, if_false, eq_self] <;> omega))) | ((rw [hfin]; rfl)))
end Go.Proofs.Ytgimfjmigoibgaa.A
/-
  DERIVED: THE SHELF's CONTRACTS AT THIS DUMP, IN PLAIN WORDS (tools/lay-plain.mjs out of 'YtgimfjmigoibgaaShelfB.lean', which tools/lay-shelf.mjs wrote): THE SAME DECLARATIONS UNDER THE SAME NAMES: 'import', 'namespace', 'open', 'def', 'theorem' AND NOTHING ELSE: no command of the shelf's: FOR A HAND-IN. Each laying: the table of numbers ('.._ren') and one theorem, a field a fact of the dump's own or the kernel's comparison; each contract: ONE APPLICATION.
-/
namespace Go.Proofs
open Go.Shelf
def Ytgimfjmigoibgaa.bSt_ren : Go.Shelf.Ren := ⟨fun | 169 => 28 | n => n, fun | 70 => 57 | 9 => 9 | 0 => 0 | 72 => 59 | 37 => 39 | 127 => 91 | 3 => 3 | 5 => 5 | n => n, fun | n => n⟩
theorem Ytgimfjmigoibgaa.bSt : Go.Proofs.Lays.n169 Try.prog Ytgimfjmigoibgaa.bSt_ren := {
  mixed := by kernel_rfl
  f169 := Try.func28.trans (congrArg some (by kernel_rfl))
  t0 := Try.underlying0
  a0 := Try.isAgg0
  z0 := Try.sizeOf0
  v0 := Try.zeroValue0
  t3 := Try.underlying3
  a3 := Try.isAgg3
  z3 := Try.sizeOf3
  v3 := Try.zeroValue3
  t9 := Try.underlying9
  a9 := Try.isAgg9
  z9 := Try.sizeOf9
  v9 := Try.zeroValue9
  t37 := Try.underlying39
  a37 := Try.isAgg39
  z37 := Try.sizeOf39
  v37 := Try.zeroValue39
  t70 := Try.underlying57
  a70 := Try.isAgg57
  z70 := Try.sizeOf57
  v70 := Try.zeroValue57
  t72 := Try.underlying59
  a72 := Try.isAgg59
  z72 := Try.sizeOf59
  v72 := Try.zeroValue59
  t127 := Try.underlying91
  a127 := Try.isAgg91
  z127 := Try.sizeOf91
  v127 := Try.zeroValue91 }
end Go.Proofs
/- strings.Builder: what writes to it does, by hand. -/
set_option linter.unusedSimpArgs false
set_option linter.unusedVariables false
set_option maxRecDepth 100000
set_option maxHeartbeats 4000000
namespace Go.Proofs.Ytgimfjmigoibgaa
open Go Go.RowKit Go.Proofs
abbrev bldT : TypeId := 59
abbrev byT : TypeId := 5
abbrev bAddr (b : Nat) : Value := .pointer (some ⟨b, 0, none⟩)
theorem bldX : Builder.Extra Try.prog Ytgimfjmigoibgaa.bSt_ren where
  sizeBuilder := by kernel_rfl
  liesBuilder := by kernel_rfl
  t5 := Try.underlying5
  a5 := Try.isAgg5
  z5 := Try.sizeOf5
  v5 := Try.zeroValue5
  infoByte := by kernel_rfl
  cellsByte := by kernel_rfl
  sizeByte := by kernel_rfl
  neB5 := by decide
set_option maxHeartbeats 4000000 in
set_option maxRecDepth 100000 in
theorem check_used (b : Nat) (w : World) (h0 : w.cell? ⟨b, 0, none⟩ = some (bAddr b)) :
    Calls Try.prog 50 #[bAddr b] w fun e w' => e = .returned (.tuple #[]) ∧ w' = w := by
  obtain ⟨j, hj, _⟩ := Option.map_eq_some_iff.1 (show (Try.prog.info? bldT).map (·.size) = some 2 by kernel_rfl)
  go_enter Try.func50, Try.ntmps50
  go_wp2
  rw [Lib.run_neq_ptr_same w _ Try.underlying57 hj]
  go_wp2
  go_end0
  exact ⟨rfl, rfl⟩
set_option maxHeartbeats 4000000 in
set_option maxRecDepth 100000 in
theorem check_fresh (b : Nat) (w : World) (h0 : w.cell? ⟨b, 0, none⟩ = some (.pointer none)) (hsh : w.shape? b = some (bldT, 2)) (hfz : w.frozen? ⟨b, 0, none⟩ = false) :
    Calls Try.prog 50 #[bAddr b] w fun e w' => e = .returned (.tuple #[]) ∧ w' = w.setCell ⟨b, 0, none⟩ (bAddr b) := by
  obtain ⟨j, hj, hjs⟩ := Option.map_eq_some_iff.1 (show (Try.prog.info? bldT).map (·.size) = some 2 by kernel_rfl)
  go_enter Try.func50, Try.ntmps50
  go_wp2
  rw [Lib.run_to_unsafe w ⟨b, 0, none⟩ Try.underlying57 Try.underlying109 hj (by rw [hjs]; decide) hsh (Nat.zero_lt_succ 1)]
  simp only [Result.andThen]
  rw [Oper.upon_value]
  go_wp2
  rw [run_callFunc_extern Try.func76 (by kernel_rfl) (by kernel_rfl) (by kernel_rfl) (e := Extern.AbiNoEscape.same) (by kernel_rfl)]
  rw [Lib.run_noEscape]
  simp only [Result.andThen]
  rw [Oper.upon_value]
  go_wp2
  rw [Lib.run_from_unsafe w ⟨b, 0, none⟩ Try.underlying109 Try.underlying57 hj hsh (by kernel_rfl)]
  simp only [Result.andThen]
  rw [Oper.upon_value]
  go_wp2
  go_end0
  exact ⟨rfl, rfl⟩
end Go.Proofs.Ytgimfjmigoibgaa
/- strings.Builder: WriteString and String. -/
set_option linter.unusedSimpArgs false
set_option linter.unusedVariables false
set_option maxRecDepth 100000
set_option maxHeartbeats 4000000
namespace Go.Proofs.Ytgimfjmigoibgaa
open Go Go.RowKit Go.Proofs
theorem bldCheck {B b : Nat} {bs : List Value} {w : World} (h : Lib.IsBuilderF bldT byT B b bs w) :
    Calls Try.prog 50 #[bAddr b] w fun e w' => e = .returned (.tuple #[]) ∧ Lib.BuilderAtF bldT byT B b (bAddr b) bs w' ∧ Below B w w' ∧ Lib.OthersKept byT (some b) w w' := by
  rcases h with h | h
  · refine (check_fresh b w h.cell0 h.shape h.frozen0).mono ?_
    rintro e w' ⟨rfl, rfl⟩
    exact ⟨rfl, h.used _, (Below.refl B w).setCell (p := ⟨b, 0, none⟩) h.1 _, (Lib.OthersKept.refl _ _ w).setCell ⟨b, 0, none⟩ rfl _⟩
  · refine (check_used b w h.cell0).mono ?_
    rintro e w' ⟨rfl, rfl⟩
    exact ⟨rfl, h, Below.refl B _, Lib.OthersKept.refl _ _ _⟩
set_option maxHeartbeats 4000000 in
set_option maxRecDepth 100000 in
theorem bldWrite (B b : Nat) (bs : List Value) (s : ByteArray) (w : World) (h : Lib.IsBuilderF bldT byT B b bs w) (hlen : bs.length + s.size ≤ 140737488355328) (hBw : B ≤ w.heap.size) :
    Calls Try.prog 27 #[bAddr b, .string s] w fun e w' => e = .returned (.tuple #[.int .i64 s.size, .nilIface]) ∧ Lib.IsBuilderF bldT byT B b (bs ++ Lib.strCells s) w' ∧ Below B w w' ∧ Lib.OthersKept byT (some b) w w' := by
  obtain ⟨i0, hi, hz0, hz1, hz2⟩ := info_parts bldX.infoByte
  go_enter Try.func27, Try.ntmps27
  go_wp2_with (go_at_call 50; refine (bldCheck (B := B) (b := b) (bs := bs) h).mono ?_)
  rintro e w1 ⟨rfl, h1, hb1, hk1⟩
  obtain ⟨hB, v, hbk, hown, hne⟩ := h1
  have c0 : w1.cell? ⟨b, 0, none⟩ = some (bAddr b) := by rw [Lib.cell_of_heap hbk]; rfl
  have c1 : w1.cell? ⟨b, 1, none⟩ = some v := by rw [Lib.cell_of_heap hbk]; rfl
  go_wp2_with (at_builtin; refine Lib.wpList_append_own_stringF _ rfl _ _ 39 9 rfl B byT i0 Try.underlying39 Try.underlying9 hi hz0 hz1 hz2 _ _ _ rfl hown s rfl ?c3 ?c4 ?c5 ?_)
  case c3 => unfold maxLen; omega
  case c4 => omega
  case c5 => have := hb1.size; omega
  intro v' w2 hown' hgrow _
  have hlt : b < w1.heap.size := by
    rcases Nat.lt_or_ge b w1.heap.size with h' | h'
    · exact h'
    · simp [Array.getElem?_eq_none h'] at hbk
  have hb2 : w2.heap[b]? = some (.cells #[bAddr b, v] bldT (0, 0)) := by
    rw [hgrow.block b hlt (fun e => hne e.symm)]
    exact hbk
  have d0 : w2.cell? ⟨b, 0, none⟩ = some (bAddr b) := by rw [Lib.cell_of_heap hb2]; rfl
  have d1 : w2.cell? ⟨b, 1, none⟩ = some v := by rw [Lib.cell_of_heap hb2]; rfl
  have f1 : w2.frozen? ⟨b, 1, none⟩ = false := Lib.frozen_of_heap hb2 1
  obtain ⟨ao, n', cap, rfl⟩ : ∃ ao n' cap, v' = .slice ao n' cap := by
    rcases hown'.2 with ⟨hv, _⟩ | ⟨g, cap, cur, fz, hv, _⟩
    · exact ⟨_, _, _, hv⟩
    · exact ⟨_, _, _, hv⟩
  go_wp2
  go_ret2
  refine ⟨rfl, .inr ?_, ?_, (hk1.grown hgrow (Lib.ownsRowF_kind hown)).setCell ⟨b, 1, none⟩ rfl _⟩
  · exact Lib.BuilderAtF.put (T := bldT) (e := byT) hB hb2 (bs' := bs ++ Lib.strCells s) (by simpa [Lib.strCells_length] using hown') (by decide)
  · exact (hb1.grown hgrow (by have := hb1.size; omega) (fun k hk => (hown.lt k hk).1)).setCell (p := ⟨b, 1, none⟩) hB _
theorem bldString (B b : Nat) (l : List UInt8) (w : World) (h : Lib.IsBuilderF bldT byT B b (Lib.byteCells l) w) (hBw : B ≤ w.heap.size) :
    Calls Try.prog 28 #[bAddr b] w fun e w' => e = .returned (.string ⟨l.toArray⟩) ∧ Below B w w' :=
  (Any.Builder_String_any_k Ytgimfjmigoibgaa.bSt bldX B b l w h hBw).mono fun e w' ⟨h1, _, h2, _⟩ => ⟨h1, h2⟩
end Go.Proofs.Ytgimfjmigoibgaa
/- Rules as text, by the program: the walk, by hand. -/
set_option linter.unusedSimpArgs false
set_option linter.unusedVariables false
set_option maxRecDepth 100000
set_option maxHeartbeats 4000000
namespace Go.Proofs.Ytgimfjmigoibgaa
open Go Go.RowKit Go.Proofs
def BldO (w wr : World) (o : ByteArray) : Prop := Lib.IsBuilderF bldT byT w.heap.size w.heap.size (Lib.strCells o) wr ∧ Below w.heap.size w wr
theorem strCells_append (a b : ByteArray) : Lib.strCells (a ++ b) = Lib.strCells a ++ Lib.strCells b := by
  simp [Lib.strCells]
theorem BldO.start (w : World) : BldO w (w.alloc (.cells #[.pointer none, .slice none 0 0] bldT)) ByteArray.empty :=
  ⟨Lib.IsBuilderF.of (Lib.fresh_isBuilder bldT byT w), (Below.refl _ w).alloc (Nat.le_refl _) _⟩
theorem BldO.alloc {w wr : World} {o : ByteArray} (h : BldO w wr o) (x : Obj) : BldO w (wr.alloc x) o := ⟨h.1.alloc x, h.2.alloc h.2.size x⟩
theorem BldO.write {w wr : World} {o : ByteArray} (h : BldO w wr o) (s : ByteArray) (hs : (o ++ s).size ≤ 1099511627776) :
    Calls Try.prog 27 #[bAddr w.heap.size, .string s] wr fun e w' => e = .returned (.tuple #[.int .i64 s.size, .nilIface]) ∧ BldO w w' (o ++ s) ∧ Below w.heap.size wr w' ∧ Lib.OthersKept byT (some w.heap.size) wr w' := by
  rw [ByteArray.size_append] at hs
  refine (bldWrite w.heap.size w.heap.size (Lib.strCells o) s wr h.1 (by rw [Lib.strCells_length]; omega) h.2.size).mono ?_
  rintro e w' ⟨h1, h2, h3, h4⟩
  exact ⟨h1, ⟨by rw [strCells_append]; exact h2, h.2.trans h3⟩, h3, h4⟩
theorem BldO.string {w wr : World} {o : ByteArray} (h : BldO w wr o) :
    Calls Try.prog 28 #[bAddr w.heap.size] wr fun e w' => e = .returned (.string o) ∧ Below w.heap.size w w' := by
  refine (bldString w.heap.size w.heap.size o.data.toList wr h.1 h.2.size).mono ?_
  rintro e w' ⟨h1, h2⟩
  exact ⟨h1, h.2.trans h2⟩
/-! ### reading -/
def ItsAt (w : World) (a : Option Addr) (l : List A.It) : Prop := 0 < l.length → ∃ b off, a = some ⟨b, off, none⟩ ∧ b < w.heap.size ∧ ∀ q, q < l.length → w.cell? ⟨b, off + q * 2, none⟩ = some (.bool (A.tAt l q).1) ∧ w.cell? ⟨b, off + q * 2 + 1, none⟩ = some (.string (A.tAt l q).2)
def AlsAt (w : World) (a : Option Addr) (l : List (List A.It)) : Prop := 0 < l.length → ∃ b off, a = some ⟨b, off, none⟩ ∧ b < w.heap.size ∧ ∀ k, k < l.length → ∃ a2 c2, w.cell? ⟨b, off + k, none⟩ = some (.slice a2 (A.aAt l k).length c2) ∧ ItsAt w a2 (A.aAt l k)
def LnsAt (w : World) (a : Option Addr) (l : List A.Ln) : Prop := 0 < l.length → ∃ b off, a = some ⟨b, off, none⟩ ∧ b < w.heap.size ∧ ∀ i, i < l.length → w.cell? ⟨b, off + i * 2, none⟩ = some (.string (A.lAt l i).1) ∧ ∃ a1 c1, w.cell? ⟨b, off + i * 2 + 1, none⟩ = some (.slice a1 (A.lAt l i).2.length c1) ∧ AlsAt w a1 (A.lAt l i).2
section
open A
variable {w : World} {S : Nat → Prop}
theorem cell_at {cs : List C} {k : Nat} (h : k < cs.length) : cellAt cs k = cs[k] := by rw [cellAt, List.getD_eq_getElem?_getD, List.getElem?_eq_getElem h]; rfl
theorem its_read {a : Option Addr} {n cap : Nat} {l : List It} (hS : ∀ b, S b → b < w.heap.size) (h : CRep w S (.slice a n cap) (.sl l.length (itC l))) : n = l.length ∧ ItsAt w a l := by
  cases hl : l with
  | nil =>
    subst hl
    have hn : n = 0 := by cases h <;> rfl
    exact ⟨hn, fun q => absurd q (by simp)⟩
  | cons x r =>
    rw [← hl]
    have hp : 0 < l.length := by rw [hl]; simp
    have e : (itC l).length = l.length * 2 := itC_len l
    generalize hcs : itC l = cs at *
    generalize hm : l.length = m at *
    cases h with
    | sl0 => omega
    | sl vs hs hn hc hk =>
      rename_i b off
      refine ⟨rfl, fun _ => ⟨b, off, rfl, hS _ hs, fun q hq => ?_⟩⟩
      rw [hm] at hq
      obtain ⟨t1, t2⟩ := at_itC (a := l) (i := q) (by omega)
      rw [hcs, cell_at (by omega)] at t1 t2
      have k1 := hk (q * 2) (by omega)
      have k2 := hk (q * 2 + 1) (by omega)
      rw [t1] at k1; rw [t2] at k2
      rw [hc (q * 2) (by omega), show off + q * 2 + 1 = off + (q * 2 + 1) by omega, hc (q * 2 + 1) (by omega)]
      exact ⟨by rw [(crep_val k1).1], by rw [(crep_val k2).1]⟩
theorem sl_any {v : Value} {c : C} (hc : okK .sl c) (h : CRep w S v c) : ∃ a n cap, v = .slice a n cap ∧ CRep w S (.slice a n cap) (.sl (gn c) (gc c)) := by
  rcases hc with rfl | ⟨m, ds, rfl⟩
  · cases h; exact ⟨_, _, _, rfl, .sl0⟩
  · cases h with
    | sl0 => exact ⟨_, _, _, rfl, .sl0⟩
    | sl vs hs hn hc hk => exact ⟨_, _, _, rfl, .sl vs hs hn hc hk⟩
theorem als_read {a : Option Addr} {n cap : Nat} {l : List (List It)} {ds : List C} (hS : ∀ b, S b → b < w.heap.size) (hr : AlRep l ds) (h : CRep w S (.slice a n cap) (.sl l.length ds)) : n = l.length ∧ AlsAt w a l := by
  obtain ⟨e, hr⟩ := hr
  cases hl : l with
  | nil =>
    subst hl
    have : ds = [] := List.eq_nil_of_length_eq_zero e
    subst this
    have hn : n = 0 := by cases h <;> rfl
    exact ⟨hn, fun q => absurd q (by simp)⟩
  | cons x r =>
    rw [← hl]
    have hp : 0 < l.length := by rw [hl]; simp
    generalize hm : l.length = m at *
    cases h with
    | sl0 => omega
    | sl vs hs hn hc hk =>
      rename_i b off
      refine ⟨rfl, fun _ => ⟨b, off, rfl, hS _ hs, fun k hk2 => ?_⟩⟩
      rw [hm] at hk2
      obtain ⟨o1, o2, o3⟩ := hr k hk2
      have k1 := hk k (by omega)
      rw [← cell_at (by omega)] at k1
      obtain ⟨a2, n2, c2, e2, r2⟩ := sl_any o1 k1
      rw [o2, o3] at r2
      obtain ⟨rfl, g2⟩ := its_read hS r2
      exact ⟨a2, c2, by rw [hc k (by omega), e2], g2⟩
theorem lns_read {a : Option Addr} {n cap : Nat} {l : List Ln} {cs : List C} (hS : ∀ b, S b → b < w.heap.size) (hr : LnRep l cs) (h : CRep w S (.slice a n cap) (.sl l.length cs)) : n = l.length ∧ LnsAt w a l := by
  obtain ⟨e, hr⟩ := hr
  cases hl : l with
  | nil =>
    subst hl
    have : cs = [] := List.eq_nil_of_length_eq_zero (by simpa using e)
    subst this
    have hn : n = 0 := by cases h <;> rfl
    exact ⟨hn, fun q => absurd q (by simp)⟩
  | cons x r =>
    rw [← hl]
    have hp : 0 < l.length := by rw [hl]; simp
    generalize hm : l.length = m at *
    cases h with
    | sl0 => omega
    | sl vs hs hn hc hk =>
      rename_i b off
      refine ⟨rfl, fun _ => ⟨b, off, rfl, hS _ hs, fun i hi => ?_⟩⟩
      rw [hm] at hi
      obtain ⟨o0, o1, o2, o3⟩ := hr i hi
      have k0 := hk (i * 2) (by omega)
      have k1 := hk (i * 2 + 1) (by omega)
      rw [← cell_at (by omega)] at k0 k1
      rw [o0] at k0
      obtain ⟨a1, n1, c1, e1, r1⟩ := sl_any o1 k1
      rw [o2] at r1
      obtain ⟨rfl, g1⟩ := als_read hS o3 r1
      refine ⟨?_, a1, c1, ?_, g1⟩
      · rw [hc (i * 2) (by omega), (crep_val k0).1]
      · rw [show off + i * 2 + 1 = off + (i * 2 + 1) by omega, hc (i * 2 + 1) (by omega), e1]
end
end Go.Proofs.Ytgimfjmigoibgaa
/- Rules as text, by the program: the walk, by hand. -/
set_option linter.unusedSimpArgs false
set_option linter.unusedVariables false
set_option maxRecDepth 100000
set_option maxHeartbeats 4000000
namespace Go.Proofs.Ytgimfjmigoibgaa
open Go Go.RowKit Go.Proofs
open A (It Ln tAt aAt lAt itsT altsT linesT barT txtL itT spB sqB quB barB colB endB)
theorem linesT_len (L : List Ln) (o : ByteArray) : o.size ≤ (linesT L o).size := by rw [A.linesT_R, ByteArray.size_append]; omega
theorem altsT_len (l : List (List It)) (f : Bool) (o : ByteArray) : o.size ≤ (altsT f l o).size := by
  have := A.altsT_R l f o ByteArray.empty
  rw [A.ba_nil] at this
  rw [this, ByteArray.size_append]; omega
theorem itsT_len (a : List It) (o : ByteArray) : o.size ≤ (itsT a o).size := by
  have := A.itsT_R a o ByteArray.empty
  rw [A.ba_nil] at this
  rw [this, ByteArray.size_append]; omega
theorem BldO.lt {w wr : World} {o : ByteArray} (h : BldO w wr o) : w.heap.size < wr.heap.size := by
  rcases h.1 with h | h <;> exact h.lt
theorem BldO.kept {w wr w1 : World} {o : ByteArray} {cs : Array Value} {t : TypeId} (h : BldO w wr o) (ht : t ≠ byT) (k : Lib.OthersKept byT (some w.heap.size) (wr.alloc (.cells cs t)) w1) (j : Nat) : w1.cell? ⟨wr.heap.size, j, none⟩ = cs[j]? := by
  have h1 := k wr.heap.size _ (heap_alloc_new wr _) (fun e => by have := h.lt; have e2 := Option.some.inj e; omega) (fun c fz e => by cases e; exact ht rfl)
  rw [Lib.cell_of_heap h1]
theorem its_step {l : List It} {q : Nat} (h : q < l.length) (o : ByteArray) : itsT (l.drop q) o = itsT (l.drop (q + 1)) (o ++ itT (tAt l q)) := by
  rw [A.drop_tAt h]; rfl
theorem als_step {l : List (List It)} {m : Nat} (h : m < l.length) (f : Bool) (o : ByteArray) : altsT f (l.drop m) o = altsT true (l.drop (m + 1)) (itsT (aAt l m) (barT f o)) := by
  rw [A.drop_aAt h]; rfl
set_option maxHeartbeats 4000000 in
set_option maxRecDepth 100000 in
theorem text_any (L : List Ln) (la : Option Addr) (lc : Nat) (w : World) (hL : LnsAt w la L) (hn : L.length ≤ 1000000) (hA : ∀ x ∈ L, x.2.length ≤ 1000000 ∧ ∀ a ∈ x.2, a.length ≤ 1000000) (hsz : (txtL L).size ≤ 1099511627776) :
    Calls Try.prog 11 #[.slice la L.length lc] w fun e w' => e = .returned (.string (txtL L)) ∧ Below w.heap.size w w' := by
  have HL := Lib.hid hL
  have HA := Lib.hid hA
  have HZ := Lib.hid hsz
  clear hL hA hsz
  go_enter Try.func11, Try.ntmps11
  go_wp2_with fail
  go_loopw [12] (fun i wr => ∃ (k : Nat) (o : ByteArray), k ≤ L.length ∧ i = .int .i64 k ∧ BldO w wr o ∧ linesT (L.drop k) o = txtL L) (fun i _ => L.length - (intOf i).toNat)
  case atStart => exact ⟨0, ByteArray.empty, Nat.zero_le _, rfl, BldO.start w, rfl⟩
  case round =>
    obtain ⟨k, o, hk, rfl, hB, hI⟩ := hrel
    by_cases hkl : k < L.length
    · obtain ⟨lb, lo, rfl, hlb, hlc⟩ := HL.out (by omega)
      obtain ⟨c0, a1, n1, c1, hA1⟩ := hlc k hkl
      have d0 := (hB.2.cell (p := ⟨lb, lo + k * 2, none⟩) hlb).trans c0
      have d1 := (hB.2.cell (p := ⟨lb, lo + k * 2 + 1, none⟩) hlb).trans c1
      have hd : L.drop k = lAt L k :: L.drop (k + 1) := A.drop_lAt hkl
      have hAm := HA.out _ (A.lAt_mem hkl)
      rw [hd] at hI
      generalize lAt L k = X at *
      obtain ⟨nm, As⟩ := X
      dsimp only at c0 c1 hA1 d0 d1 hI hAm
      have hI2 : linesT (L.drop (k + 1)) (altsT false As (o ++ nm ++ colB) ++ endB) = txtL L := hI
      have hz1 : (o ++ nm ++ colB).size ≤ 1099511627776 := by
        have h1 := linesT_len (L.drop (k + 1)) (altsT false As (o ++ nm ++ colB) ++ endB)
        rw [hI2, ByteArray.size_append] at h1
        have h2 := altsT_len As false (o ++ nm ++ colB)
        have := HZ.out
        omega
      have hz2 : (nm ++ colB).size ≤ 1099511627776 := by rw [ByteArray.append_assoc, ByteArray.size_append] at hz1; omega
      have hz3 : nm.size + 2 ≤ 1099511627776 := by rw [ByteArray.size_append] at hz2; exact hz2
      have HI := Lib.hid hI2
      have HLC := Lib.hid hlc
      have HAM := Lib.hid hAm
      have HA1 := Lib.hid hA1
      have HB := Lib.hid hB
      clear hlc hI hI2 hd hAm hA1 c0 c1 hB
      have hz4 : (altsT false As (o ++ nm ++ colB) ++ endB).size ≤ 1099511627776 := by
        have h1 := linesT_len (L.drop (k + 1)) (altsT false As (o ++ nm ++ colB) ++ endB)
        rw [HI.out] at h1
        have := HZ.out
        omega
      have HZ4 := Lib.hid hz4
      clear hz4
      go_wp2_with (go_at_call 27; refine ((HB.out.alloc _).write (nm ++ colB) (by rw [← ByteArray.append_assoc]; exact hz1)).mono ?_)
      rintro e w1 ⟨rfl, hB1, hb1, ho1⟩
      have e5 : w1.cell? ⟨wr.heap.size, 1, none⟩ = some (.slice a1 As.length n1) := HB.out.kept (by decide) ho1 1
      rw [← ByteArray.append_assoc] at hB1
      have HB1 := Lib.hid hB1
      clear hB1 hb1 ho1 d0 d1
      generalize hT1 : altsT false As (o ++ nm ++ colB) = T1 at *
      generalize o ++ nm ++ colB = o1 at *
      have HT1 := Lib.hid hT1
      clear hT1
      go_wp2_with fail
      go_loopw [23] (fun i wr => ∃ (m : Nat) (o : ByteArray), m ≤ As.length ∧ i = .int .i64 m ∧ BldO w wr o ∧ altsT (decide (0 < m)) (As.drop m) o = T1) (fun i _ => As.length - (intOf i).toNat)
      case atStart => exact ⟨0, o1, Nat.zero_le _, rfl, HB1.out, HT1.out⟩
      case round =>
        obtain ⟨m, o2, hm, rfl, hB2, hI2⟩ := hrel
        by_cases hml : m < As.length
        · obtain ⟨ab, ao, rfl, hab, hac⟩ := HA1.out (by omega)
          obtain ⟨a2, c2, c3, hA2⟩ := hac m hml
          have d3 := (hB2.2.cell (p := ⟨ab, ao + m, none⟩) hab).trans c3
          have hAm2 := HAM.out.2 _ (A.aAt_mem hml)
          rw [als_step hml] at hI2
          have hz5 : (itsT (aAt As m) (barT (decide (0 < m)) o2)).size ≤ 1099511627776 := by
            have h1 := altsT_len (As.drop (m + 1)) true (itsT (aAt As m) (barT (decide (0 < m)) o2))
            have h2 := HZ4.out
            rw [hI2] at h1
            rw [ByteArray.size_append] at h2
            omega
          generalize aAt As m = It0 at *
          have HI2 := Lib.hid hI2
          have HB2 := Lib.hid hB2
          have HA2 := Lib.hid hA2
          have HZ5 := Lib.hid hz5
          have HAC := Lib.hid hac
          clear hI2 hB2 hA2 hz5 hac c3 e5
          by_cases hm0 : 0 < m
          · have hmi : (0 : Int) < (m : Int) := by omega
            have BARE : barT (decide (0 < m)) o2 = o2 ++ barB := by rw [decide_eq_true hm0]; rfl
            have hz6 : (o2 ++ barB).size ≤ 1099511627776 := by
              have h1 := itsT_len It0 (barT (decide (0 < m)) o2)
              have := HZ5.out
              rw [← BARE]; omega
            go_wp2_with (go_at_call 27; refine (HB2.out.write barB hz6).mono ?_)
            rintro e w2 ⟨rfl, hB3, hb3, -⟩
            have HB3 := Lib.hid hB3
            clear hB3 hb3 d3
            have hz7 := HZ5.out
            generalize hT2 : itsT It0 (barT (decide (0 < m)) o2) = T2 at *
            have HT2 := Lib.hid (by rw [← BARE]; exact hT2 : itsT It0 (o2 ++ barB) = T2)
            clear hT2
            go_wp2_with fail
            go_loopw [33] (fun i wr => ∃ (q : Nat) (o : ByteArray), q ≤ It0.length ∧ i = .int .i64 q ∧ BldO w wr o ∧ itsT (It0.drop q) o = T2) (fun i _ => It0.length - (intOf i).toNat)
            case atStart => exact ⟨0, (o2 ++ barB), Nat.zero_le _, rfl, HB3.out, HT2.out⟩
            case round =>
              obtain ⟨q, o4, hq, rfl, hB4, hI4⟩ := hrel
              by_cases hql : q < It0.length
              · obtain ⟨ib, io, rfl, hib, hic⟩ := HA2.out (by omega)
                obtain ⟨c4, c5⟩ := hic q hql
                have d4 := (hB4.2.cell (p := ⟨ib, io + q * 2, none⟩) hib).trans c4
                have d5 := (hB4.2.cell (p := ⟨ib, io + q * 2 + 1, none⟩) hib).trans c5
                rw [its_step hql] at hI4
                have hz8 : (o4 ++ itT (tAt It0 q)).size ≤ 1099511627776 := by
                  have h1 := itsT_len (It0.drop (q + 1)) (o4 ++ itT (tAt It0 q))
                  rw [hI4] at h1
                  omega
                generalize tAt It0 q = Y at *
                obtain ⟨bb, s⟩ := Y
                dsimp only at d4 d5 c4 c5
                have HI4 := Lib.hid hI4
                have HB4 := Lib.hid hB4
                have HIC := Lib.hid hic
                have HZ8 := Lib.hid hz8
                clear hI4 hB4 hic c4 c5
                cases bb with
                | true =>
                  have hz9 : s.size + 3 ≤ 1099511627776 := by
                    have h1 : (itT (true, s)).size = s.size + 3 := by
                      show (sqB ++ s ++ quB).size = _
                      rw [ByteArray.size_append, ByteArray.size_append]
                      show 2 + s.size + 1 = _
                      omega
                    rw [ByteArray.size_append, h1] at hz8; omega
                  clear hz8
                  have hz10 : (sqB ++ s).size + 1 ≤ 1099511627776 := by rw [ByteArray.size_append]; show 2 + s.size + 1 ≤ _; omega
                  go_wp2_with (go_at_call 27; refine ((HB4.out.alloc _).write (sqB ++ s ++ quB) HZ8.out).mono ?_)
                  rintro e w3 ⟨rfl, hB5, hb5, -⟩
                  have HB5 := Lib.hid hB5
                  clear hB5 hb5
                  go_wp2_with fail
                  go_roundw
                  case rel => exact ⟨q + 1, _, by omega, by go_num, HB5.out, HI4.out⟩
                  case measure => simp [intOf]; omega
                | false =>
                  have hz9 : s.size + 1 ≤ 1099511627776 := by
                    have h1 : (itT (false, s)).size = s.size + 1 := by
                      show (spB ++ s).size = _
                      rw [ByteArray.size_append]
                      show 1 + s.size = _
                      omega
                    rw [ByteArray.size_append, h1] at hz8; omega
                  clear hz8
                  go_wp2_with (go_at_call 27; refine ((HB4.out.alloc _).write (spB ++ s) HZ8.out).mono ?_)
                  rintro e w3 ⟨rfl, hB5, hb5, -⟩
                  have HB5 := Lib.hid hB5
                  clear hB5 hb5
                  go_wp2_with fail
                  go_roundw
                  case rel => exact ⟨q + 1, _, by omega, by go_num, HB5.out, HI4.out⟩
                  case measure => simp [intOf]; omega
              · have hAl := HAM.out.1
                have e4 : o4 = T2 := by rw [List.drop_eq_nil_of_le (by omega)] at hI4; exact hI4
                subst e4
                have HB4 := Lib.hid hB4
                clear hB4 hI4
                go_wp2_with fail
                go_roundw
                case rel => exact ⟨m + 1, _, by omega, by go_num, HB4.out, by rw [decide_eq_true (by omega : 0 < m + 1)]; exact HI2.out⟩
                case measure => simp [intOf]; omega
          · have hmi : ¬ (0 : Int) < (m : Int) := by omega
            have BARE : barT (decide (0 < m)) o2 = o2 := by rw [decide_eq_false hm0]; rfl
            have HB3 := HB2
            have hz7 := HZ5.out
            generalize hT2 : itsT It0 (barT (decide (0 < m)) o2) = T2 at *
            have HT2 := Lib.hid (by rw [BARE] at hT2; exact hT2 : itsT It0 o2 = T2)
            clear hT2
            go_wp2_with fail
            go_loopw [33] (fun i wr => ∃ (q : Nat) (o : ByteArray), q ≤ It0.length ∧ i = .int .i64 q ∧ BldO w wr o ∧ itsT (It0.drop q) o = T2) (fun i _ => It0.length - (intOf i).toNat)
            case atStart => exact ⟨0, o2, Nat.zero_le _, rfl, HB3.out, HT2.out⟩
            case round =>
              obtain ⟨q, o4, hq, rfl, hB4, hI4⟩ := hrel
              by_cases hql : q < It0.length
              · obtain ⟨ib, io, rfl, hib, hic⟩ := HA2.out (by omega)
                obtain ⟨c4, c5⟩ := hic q hql
                have d4 := (hB4.2.cell (p := ⟨ib, io + q * 2, none⟩) hib).trans c4
                have d5 := (hB4.2.cell (p := ⟨ib, io + q * 2 + 1, none⟩) hib).trans c5
                rw [its_step hql] at hI4
                have hz8 : (o4 ++ itT (tAt It0 q)).size ≤ 1099511627776 := by
                  have h1 := itsT_len (It0.drop (q + 1)) (o4 ++ itT (tAt It0 q))
                  rw [hI4] at h1
                  omega
                generalize tAt It0 q = Y at *
                obtain ⟨bb, s⟩ := Y
                dsimp only at d4 d5 c4 c5
                have HI4 := Lib.hid hI4
                have HB4 := Lib.hid hB4
                have HIC := Lib.hid hic
                have HZ8 := Lib.hid hz8
                clear hI4 hB4 hic c4 c5
                cases bb with
                | true =>
                  have hz9 : s.size + 3 ≤ 1099511627776 := by
                    have h1 : (itT (true, s)).size = s.size + 3 := by
                      show (sqB ++ s ++ quB).size = _
                      rw [ByteArray.size_append, ByteArray.size_append]
                      show 2 + s.size + 1 = _
                      omega
                    rw [ByteArray.size_append, h1] at hz8; omega
                  clear hz8
                  have hz10 : (sqB ++ s).size + 1 ≤ 1099511627776 := by rw [ByteArray.size_append]; show 2 + s.size + 1 ≤ _; omega
                  go_wp2_with (go_at_call 27; refine ((HB4.out.alloc _).write (sqB ++ s ++ quB) HZ8.out).mono ?_)
                  rintro e w3 ⟨rfl, hB5, hb5, -⟩
                  have HB5 := Lib.hid hB5
                  clear hB5 hb5
                  go_wp2_with fail
                  go_roundw
                  case rel => exact ⟨q + 1, _, by omega, by go_num, HB5.out, HI4.out⟩
                  case measure => simp [intOf]; omega
                | false =>
                  have hz9 : s.size + 1 ≤ 1099511627776 := by
                    have h1 : (itT (false, s)).size = s.size + 1 := by
                      show (spB ++ s).size = _
                      rw [ByteArray.size_append]
                      show 1 + s.size = _
                      omega
                    rw [ByteArray.size_append, h1] at hz8; omega
                  clear hz8
                  go_wp2_with (go_at_call 27; refine ((HB4.out.alloc _).write (spB ++ s) HZ8.out).mono ?_)
                  rintro e w3 ⟨rfl, hB5, hb5, -⟩
                  have HB5 := Lib.hid hB5
                  clear hB5 hb5
                  go_wp2_with fail
                  go_roundw
                  case rel => exact ⟨q + 1, _, by omega, by go_num, HB5.out, HI4.out⟩
                  case measure => simp [intOf]; omega
              · have hAl := HAM.out.1
                have e4 : o4 = T2 := by rw [List.drop_eq_nil_of_le (by omega)] at hI4; exact hI4
                subst e4
                have HB4 := Lib.hid hB4
                clear hB4 hI4
                go_wp2_with fail
                go_roundw
                case rel => exact ⟨m + 1, _, by omega, by go_num, HB4.out, by rw [decide_eq_true (by omega : 0 < m + 1)]; exact HI2.out⟩
                case measure => simp [intOf]; omega
        · have e4 : o2 = T1 := by rw [List.drop_eq_nil_of_le (by omega)] at hI2; exact hI2
          subst e4
          have HB2 := Lib.hid hB2
          clear hB2 hI2 e5
          go_wp2_with (go_at_call 27; refine (HB2.out.write endB HZ4.out).mono ?_)
          rintro e w2 ⟨rfl, hB3, hb3, -⟩
          have HB3 := Lib.hid hB3
          clear hB3 hb3
          go_wp2_with fail
          go_roundw
          case rel => exact ⟨k + 1, _, by omega, by go_num, HB3.out, HI.out⟩
          case measure => simp [intOf]; omega
    · have e4 : o = txtL L := by rw [List.drop_eq_nil_of_le (by omega)] at hI; exact hI
      have HB := Lib.hid hB
      clear hB hI
      go_wp2_with (go_at_call 28; refine HB.out.string.mono ?_)
      rintro e w1 ⟨rfl, hb1⟩
      go_wp2_with fail
      go_ret
      exact ⟨rfl, hb1⟩
end Go.Proofs.Ytgimfjmigoibgaa
/- Rules as text, by the program: the contract. -/
set_option linter.unusedSimpArgs false
set_option linter.unusedVariables false
set_option maxRecDepth 100000
set_option maxHeartbeats 4000000
namespace Go.Proofs.Ytgimfjmigoibgaa.A
open Go Go.RowKit
variable {P : Program} {T : TT}
theorem pc_plain {f : FuncId} {args : List Arg} {u : Value} (hp : plain u = true) (hr : ∀ a ∈ args, a.asRoot = .none)
    (h : ∀ (w : World) (S : Nat → Prop) (bx : Nat → Nat) (vs : List Value), (∀ b, S b → b < w.heap.size) → vs.length = reals args → (∀ i (h : i < args.length) (h2 : i < vs.length), ArgRep w S bx (bx i) vs[i] args[i]) →
      Calls P f vs.toArray w fun e w' => e = .returned u ∧ Below w.heap.size w w') : PC P T f args (ret1 (.st (.val u))) [] := by
  intro w S bx ph vs hh hl ha
  refine (h w S bx vs hh.low.1 hl ha).mono ?_
  rintro e w' ⟨rfl, hb⟩
  have hno : ∀ t κ b, ¬ owns [Root.loose [RC.st (.val u)]] (fun n => match n with | 0 => 0 | i + 1 => bx i) (fun _ _ => Pv.of u) t κ b := by
    intro t κ b ho
    cases t with
    | zero =>
      cases κ with
      | none => exact ho
      | some o =>
        cases o with
        | zero => exact ho
        | succ o => exact ho
    | succ t => exact owns_none _ _ _ (by simp [List.getD_eq_getElem?_getD]) _ _ ho
  refine ⟨u, S, (fun n => match n with | 0 => 0 | i + 1 => bx i), (fun _ _ => Pv.of u), rfl, ?_⟩
  constructor
  · refine ⟨fun t => ?_, fun t κ t' κ' b h => absurd h (hno t κ b), fun t κ b h => absurd h (hno t κ b), ⟨fun b hb2 => Nat.lt_of_lt_of_le (hh.low.1 b hb2) hb.size, hh.low.2.frame (fun b hb2 => hb.block b (hh.low.1 b hb2)) fun _ h => h⟩⟩
    cases t with
    | zero =>
      intro o ho
      obtain rfl : o = 0 := by have : o < 1 := ho; omega
      exact .val hp
    | succ t =>
      show RootRep T w' S _ _ (([Root.loose [RC.st (.val u)]] : List Root).getD (t + 1) .none)
      rw [show ([Root.loose [RC.st (.val u)]] : List Root).getD (t + 1) .none = .none by simp [List.getD_eq_getElem?_getD]]
      trivial
  · exact ⟨⟨rfl, rfl⟩, trivial⟩
  · exact fun _ => rfl
  · exact fun _ h => h
  · exact fun b h => .inl h
  · exact fun t κ b h => absurd h (hno t κ b)
  · exact Chg.of_below hb _
end Go.Proofs.Ytgimfjmigoibgaa.A
namespace Go.Proofs.Ytgimfjmigoibgaa.A
open Go Go.RowKit
theorem pc_Text (L : List Ln) (cs : List C) (hr : LnRep L cs) (hs : rSz L 1000000) (hz : (txtL L).size ≤ 1099511627776) : PC Try.prog T 11 [.v false [.sl L.length cs]] (ret1 (.st (vS (txtL L)))) [] :=
  pc_plain (u := .string (txtL L)) rfl (fun a ha => by obtain rfl := List.mem_singleton.1 ha; rfl) fun w S bx vs hS hl ha => by
    have hl1 : vs.length = 1 := hl
    match vs, hl1 with
    | [v], _ =>
      obtain ⟨c, hc, hv⟩ := ha 0 (by simp) (by simp)
      obtain rfl : C.sl L.length cs = c := by simpa using hc
      obtain ⟨a, n, cap, e, hv2⟩ := sl_any (c := .sl L.length cs) (.inr ⟨_, _, rfl⟩) hv
      have e' : v = .slice a n cap := e
      subst e'
      obtain ⟨rfl, hL⟩ := lns_read hS hr hv2
      exact text_any L a cap w hL hs.1 (fun x hx => hs.2 x hx) hz
end Go.Proofs.Ytgimfjmigoibgaa.A
/- The laws of rules as text. -/
set_option linter.unusedSimpArgs false
set_option linter.unusedVariables false
set_option maxRecDepth 100000
set_option maxHeartbeats 4000000
namespace Go.Proofs.Ytgimfjmigoibgaa.A
open Go
/-! ### how long the text of what was read is -/
def itZ (x : It) : Nat := x.2.size + 3
def itsZ (a : List It) : Nat := (a.map itZ).sum
def alsZ (A : List (List It)) : Nat := (A.map fun a => itsZ a + 2).sum
def lnZ (x : Ln) : Nat := x.1.size + 5 + alsZ x.2
def lnsZ (L : List Ln) : Nat := (L.map lnZ).sum
theorem itT_z (x : It) : (itT x).size ≤ itZ x := by
  unfold itT itZ
  split
  · rw [ByteArray.size_append, ByteArray.size_append]; show 2 + x.2.size + 1 ≤ _; omega
  · rw [ByteArray.size_append]; show 1 + x.2.size ≤ _; omega
theorem itsT_z : ∀ (a : List It) (o : ByteArray), (itsT a o).size ≤ o.size + itsZ a := by
  intro a
  induction a with
  | nil => intro o; exact Nat.le_refl _
  | cons x a ih =>
    intro o
    have h1 := ih (o ++ itT x)
    have h2 := itT_z x
    rw [ByteArray.size_append] at h1
    unfold itsZ at h1 ⊢
    rw [List.map_cons, List.sum_cons]
    show (itsT a (o ++ itT x)).size ≤ _
    omega
theorem altsT_z : ∀ (A : List (List It)) (f : Bool) (o : ByteArray), (altsT f A o).size ≤ o.size + alsZ A := by
  intro A
  induction A with
  | nil => intro f o; exact Nat.le_refl _
  | cons a A ih =>
    intro f o
    have h1 := ih true (itsT a (barT f o))
    have h2 := itsT_z a (barT f o)
    have h3 : (barT f o).size ≤ o.size + 2 := by
      unfold barT; split
      · rw [ByteArray.size_append]; exact Nat.le_refl _
      · omega
    unfold alsZ at h1 ⊢
    rw [List.map_cons, List.sum_cons]
    show (altsT true A (itsT a (barT f o))).size ≤ _
    omega
theorem linesT_z : ∀ (L : List Ln) (o : ByteArray), (linesT L o).size ≤ o.size + lnsZ L := by
  intro L
  induction L with
  | nil => intro o; exact Nat.le_refl _
  | cons x L ih =>
    intro o
    have h1 := ih (altsT false x.2 (o ++ x.1 ++ colB) ++ endB)
    have h2 := altsT_z x.2 false (o ++ x.1 ++ colB)
    have h3 : (o ++ x.1 ++ colB).size = o.size + x.1.size + 2 := by rw [ByteArray.size_append, ByteArray.size_append]; rfl
    have h4 : (altsT false x.2 (o ++ x.1 ++ colB) ++ endB).size = (altsT false x.2 (o ++ x.1 ++ colB)).size + 3 := by rw [ByteArray.size_append]; rfl
    unfold lnsZ at h1 ⊢
    rw [List.map_cons, List.sum_cons]
    unfold lnZ
    show (linesT L (altsT false x.2 (o ++ x.1 ++ colB) ++ endB)).size ≤ _
    have : lnZ x = x.1.size + 5 + alsZ x.2 := rfl
    unfold lnZ at h1
    omega
theorem txt_z (L : List Ln) : (txtL L).size ≤ lnsZ L := by
  have := linesT_z L ByteArray.empty
  unfold txtL
  have h : ByteArray.empty.size = 0 := rfl
  omega
end Go.Proofs.Ytgimfjmigoibgaa.A
/- The law ParseBack. -/
set_option linter.unusedSimpArgs false
set_option linter.unusedVariables false
set_option maxRecDepth 100000
set_option maxHeartbeats 4000000
namespace Go.Proofs.Ytgimfjmigoibgaa.A
open Go
theorem awb2 : lexGo ⟨⟨[83, 32, 58, 32, 58]⟩⟩ 0 = ([(1, ⟨⟨[83]⟩⟩, 0), (3, ⟨⟨[58]⟩⟩, 2), (3, ⟨⟨[58]⟩⟩, 4)], 0, 0) := lx_lit (by decide +kernel)
theorem awb3 : lexGo ⟨⟨[83, 32, 58, 32, 39, 97, 39]⟩⟩ 0 = ([(1, ⟨⟨[83]⟩⟩, 0), (3, ⟨⟨[58]⟩⟩, 2), (2, ⟨⟨[97]⟩⟩, 4)], 0, 0) := lx_lit (by decide +kernel)
theorem pbw2 : pAll ⟨⟨[83, 32, 58, 32, 58]⟩⟩ = ([], 4, 14) := p_lit14 awb2 rfl
theorem pbw3 : pAll ⟨⟨[83, 32, 58, 32, 39, 97, 39]⟩⟩ = ([], 7, 14) := p_lit14 awb3 rfl
theorem c_pa13 {s : ByteArray} (hs : s.size ≤ 65536) : pc 13 [.v false [vS s]] (rAllP s) :=
  ⟨enters Try.func13 (by kernel_rfl) (by kernel_rfl), pc_parseAll s hs⟩
def bookTB (x_lnsOf : List C → List Ln) (x_pN : ByteArray → Nat) (x_pC : ByteArray → List C) (x_pA : ByteArray → Int) (x_pE : ByteArray → Int) (x_txtL : List Ln → ByteArray) : Book := fun f xs => match f, xs with
  | 13, [.v false [.val (.string s)]] => some (rets [(false, [.st (.sl (x_pN s) (x_pC s))]), (false, [.st (vI (x_pA s))]), (false, [.st (vI (x_pE s))])])
  | 11, [.v false [.sl _ cs]] => some (ret1 (.st (vS (x_txtL (x_lnsOf cs)))))
  | 12, [.v false [.sl _ cs]] => some (ret1 (.st (vS (x_txtL (x_lnsOf cs)))))
  | 10, [] => some (ret1 (.st (vB true)))
  | _, _ => none
theorem pc_awake13b : PC Try.prog T 10 [] (ret1 (.st (vB true))) [] := by
  refine pc_of tok Try.func10 rfl (by rfl) ?_
  obtain ⟨j, hj⟩ : ∃ j : J, j = std Try.prog T := ⟨_, rfl⟩
  have hm : Try.prog.follows .mixedOrders = true := by kernel_rfl
  obtain ⟨a1, a2, a3, a4⟩ := p_of14 paw14
  obtain ⟨b1, b2, b3, b4⟩ := p_of14 pbw2
  obtain ⟨c1, c2, c3, c4⟩ := p_of14 pbw3
  have z1 : gn (cellAt (pC ⟨⟨[83, 32, 58, 32, 39, 97, 39, 32, 83, 32, 124, 32, 59]⟩⟩) (Int.toNat 0 * 2 + 1)) = 2 := by rw [a2]; rfl
  have z2 : gn (cellAt (gc (cellAt (pC ⟨⟨[83, 32, 58, 32, 39, 97, 39, 32, 83, 32, 124, 32, 59]⟩⟩) (Int.toNat 0 * 2 + 1))) (Int.toNat 0)) = 2 := by rw [a2]; rfl
  have z3 : gn (cellAt (gc (cellAt (pC ⟨⟨[83, 32, 58, 32, 39, 97, 39, 32, 83, 32, 124, 32, 59]⟩⟩) (Int.toNat 0 * 2 + 1))) (Int.toNat 1)) = 0 := by rw [a2]; rfl
  have a1' : pN ⟨⟨[83, 32, 58, 32, 39, 97, 39, 32, 83, 32, 124, 32, 59]⟩⟩ = 1 := a1
  generalize y_lnsOf : @lnsOf = x_lnsOf at *
  generalize y_pN : @pN = x_pN at *
  generalize y_pC : @pC = x_pC at *
  generalize y_pA : @pA = x_pA at *
  generalize y_pE : @pE = x_pE at *
  generalize y_txtL : @txtL = x_txtL at *
  (repeat' first | ((first | with_reducible refine tr_cut (fun h => ?_) (fun h => ?_) | refine aw_condj (by cbv) (fun h => ?_) (fun h => ?_)) <;> (try simp (disch := omega) only [hj, std, cmpI, cmpB, satB, Bool.not_eq_true, Bool.not_eq_false, decide_eq_true_eq, decide_eq_false_iff_not, beq_iff_eq, bne_iff_ne, bne_eq_false_iff_eq, beq_eq_false_iff_ne, ne_eq, reduceCtorEq, not_true_eq_false, not_false_eq_true, pl0, if_true, cmpS_eq, cmpS_neq, Bool.not_eq_eq_eq_not, Bool.not_true, Bool.not_false, Bool.not_eq_true', a1', a3, a4, b3, b4, c3, c4, z1, z2, z3, ite0, add64, sub64] at h) <;> (try (exfalso; omega))) | (with_reducible refine tr_alt (fun h => ?_) ?_ <;> (try (exfalso; omega))) | (with_reducible refine tr_ob ?_ ?_) | (with_reducible refine tr_done ?_) | (refine aw_tr hj tok (bookTB x_lnsOf x_pN x_pC x_pA x_pE x_txtL) (by cbv) ?_) | (refine aw_seq fun K hK => ?_) | (refine aw_tr1 hj tok (bookTB x_lnsOf x_pN x_pC x_pA x_pE x_txtL) (by cbv) ?_) | (refine aw_skip ?_) | (refine aw_block ?_) | (refine aw_exit ?_) | (refine aw_ret ⟨.inr rfl, ret_okj hj (by cbv) ?_ ?_⟩) | (refine aw_ret ?_) | (with_reducible refine th_n ?_) | (with_reducible refine th_r ?_) | (with_reducible refine th_x ?_) | (with_reducible refine blk_n ?_) | (with_reducible refine blk_r ?_) | (with_reducible refine blk_x ?_) | (with_reducible refine blk_y rfl ?_) | (refine ⟨.inr rfl, ret_okj hj (by cbv) ?_ ?_⟩) | (refine ⟨.inl rfl, ret_okj hj (by cbv) ?_ ?_⟩) | (with_reducible apply_assumption -symm -exfalso only [*]))
  all_goals ((try subst y_lnsOf); (try subst y_pN); (try subst y_pC); (try subst y_pA); (try subst y_pE); (try subst y_txtL))
  all_goals (try (repeat' first | with_reducible exact obl0 | with_reducible refine obl1 ?_ ?_))
  all_goals (try first | with_reducible exact True.intro | (refine ob_pc hj ?_; (try rw [hj]); first | exact c_pa13 (show _ ≤ 65536 by decide)) | (refine ob_pcn hj ?_; (try rw [hj]); first | exact c_pa13 (show _ ≤ 65536 by decide)) | ((first | refine ob_le hj ?_ | refine ob_lei hj ?_ | refine ob_inb hj ?_ | refine ob_pos hj ?_ | refine ob_ne0 hj ?_ | refine ob_eqb hj ?_); (first | rfl | first | omega | (simp only [hj, std]; split <;> omega) | (simp (disch := omega) only [hj, std, cmpI, cmpB, satB, add64, sub64, ite0, pl0, pl2, pl3, sb0, if_true, if_false, eq_self] <;> omega) | (simp (disch := omega) [hj, std, cmpI, cmpB, satB, add64, sub64, ite0, pl0, pl2, pl3, sb0, if_true, if_false, eq_self] <;> omega))) | ((rw [hj, a2]; exact (show _ ≤ _ by decide))) | ((rw [hj, a2]; first | exact .inr ⟨_, _, rfl⟩ | exact .inl rfl)) | ((refine r1b ?_; rw [hj, c4]; rfl)))
theorem c_awake13b : pc 10 [] (ret1 (.st (vB true))) := ⟨enters Try.func10 (by kernel_rfl) (by kernel_rfl), pc_awake13b⟩
end Go.Proofs.Ytgimfjmigoibgaa.A
/- Grammars as lines, by the program. -/
set_option linter.unusedSimpArgs false
set_option linter.unusedVariables false
set_option maxRecDepth 100000
set_option maxHeartbeats 4000000
namespace Go.Proofs.Ytgimfjmigoibgaa.A
open Go
def al3C (l : List (List It)) : List C := l.map fun a => .sl a.length (itC a)
def ln3C (l : List Ln) : List C := l.flatMap fun x => [vS x.1, .sl x.2.length (al3C x.2)]
theorem al3C_len (l : List (List It)) : (al3C l).length = l.length := by unfold al3C; simp
theorem ln3C_len (l : List Ln) : (ln3C l).length = l.length * 2 := by unfold ln3C; induction l with | nil => rfl | cons x l ih => simp at ih ⊢; omega
theorem at_al3 {A : List (List It)} {i : Nat} (h : i < A.length) : cellAt (al3C A) i = .sl (aAt A i).length (itC (aAt A i)) := by
  unfold al3C; rw [map_at, List.getElem?_eq_getElem h, aAt, List.getD_eq_getElem?_getD, List.getElem?_eq_getElem h]; rfl
theorem at_ln3 {L : List Ln} {i : Nat} (h : i < L.length) : cellAt (ln3C L) (i * 2) = vS (lAt L i).1 ∧ cellAt (ln3C L) (i * 2 + 1) = .sl (lAt L i).2.length (al3C (lAt L i).2) := by
  have := pair_at (fun x : Ln => vS x.1) (fun x => .sl x.2.length (al3C x.2)) L i h
  unfold ln3C; simpa only [lAt, List.getD_eq_getElem?_getD, List.getElem?_eq_getElem h, Option.getD_some] using this
theorem AlRep.of3 (A : List (List It)) : AlRep A (al3C A) := ⟨al3C_len A, fun k h => by rw [at_al3 h]; exact ⟨.inr ⟨_, _, rfl⟩, rfl, rfl⟩⟩
theorem LnRep.of3 (L : List Ln) : LnRep L (ln3C L) := ⟨ln3C_len L, fun i h => by
  obtain ⟨h1, h2⟩ := at_ln3 h
  refine ⟨h1, ?_, ?_, ?_⟩
  · rw [h2]; exact .inr ⟨_, _, rfl⟩
  · rw [h2]; rfl
  · rw [h2]; exact AlRep.of3 _⟩
/-! ### a symbol as an item -/
/-! ### the places of a nonterminal's rules, and these rules -/
end Go.Proofs.Ytgimfjmigoibgaa.A
/- A grammar that came in, as cells. -/
set_option linter.unusedSimpArgs false
set_option linter.unusedVariables false
set_option maxRecDepth 100000
set_option maxHeartbeats 4000000
namespace Go.Proofs.Ytgimfjmigoibgaa.A
open Go
theorem sl_mem {α : Type} {sz by_ : Nat} {R : Rd α} {w : World} {cs : List Value} {xs : List α} (h : RSl sz by_ R w cs xs) : ∀ x ∈ xs, ∃ cs', R w cs' x := by
  obtain ⟨a, cap, _, hs, _⟩ := h
  intro x hx
  obtain ⟨i, hi, rfl⟩ := List.mem_iff_getElem.1 hx
  obtain ⟨b, off, _, _, hc⟩ := hs (by omega)
  obtain ⟨cs', _, _, h3⟩ := hc i hi
  exact ⟨cs', h3⟩
theorem sl_bound {α : Type} {sz by_ : Nat} {R : Rd α} {w : World} {cs : List Value} {xs : List α} (h : RSl sz by_ R w cs xs) : xs.length * by_ ≤ 140737488351232 := by
  obtain ⟨a, cap, _, _, hle, hcap, _⟩ := h
  exact Nat.le_trans (Nat.mul_le_mul_right _ hle) hcap
theorem rdc_to {α : Type} {R : Rd α} {f g : α → List C} (h : RdC R f) (e : ∀ x, f x = g x) : RdC R g := by rw [← show f = g from funext e]; exact h
end Go.Proofs.Ytgimfjmigoibgaa.A
/- The law ParseTexts, for arguments of small bulk. -/
set_option linter.unusedSimpArgs false
set_option linter.unusedVariables false
set_option maxRecDepth 100000
set_option maxHeartbeats 4000000
namespace Go.Proofs.Ytgimfjmigoibgaa.A
open Go
abbrev RItB : Rd It := RRec2 RBool RStrB
abbrev RLnB : Rd Ln := RRec2 RStrB (RSl 1 24 (RSl 2 24 RItB))
abbrev RLnsB : Rd (List Ln) := RSl 2 40 RLnB
theorem rdc_strB : RdC RStrB fun s => [vS s] := by rintro w cs s ⟨rfl, _⟩; exact rdc_one (.val rfl)
theorem flat_one {α : Type} (g : α → C) (l : List α) : l.flatMap (fun x => [g x]) = l.map g := by induction l with | nil => rfl | cons x l ih => rw [List.flatMap_cons, ih]; rfl
theorem rdc_its : RdC (RSl 2 24 RItB) fun a => [.sl a.length (itC a)] :=
  rdc_to (rdc_sl (f := fun x : It => [vB x.1] ++ [vS x.2]) (rdc_rec2 rdc_bool rdc_strB) (fun _ => rfl)) fun a => rfl
theorem rdc_als : RdC (RSl 1 24 (RSl 2 24 RItB)) fun A => [.sl A.length (al3C A)] :=
  rdc_to (rdc_sl rdc_its (fun _ => rfl)) fun A => by rw [flat_one (fun a : List It => C.sl a.length (itC a))]; rfl
theorem rdc_lns : RdC RLnsB fun L => [.sl L.length (ln3C L)] :=
  rdc_to (rdc_sl (f := fun x : Ln => [vS x.1] ++ [.sl x.2.length (al3C x.2)]) (rdc_rec2 rdc_strB rdc_als) (fun _ => rfl)) fun L => rfl
structure LnB (L : List Ln) : Prop where
  n : L.length ≤ 140737488351232
  a : ∀ x ∈ L, x.2.length ≤ 140737488351232 ∧ x.1.size ≤ 1048576
  i : ∀ x ∈ L, ∀ a ∈ x.2, a.length ≤ 140737488351232
  t : ∀ x ∈ L, ∀ a ∈ x.2, ∀ it ∈ a, it.2.size ≤ 1048576
theorem lines_b {w : World} {cs : List Value} {L : List Ln} (h : RLnsB w cs L) : LnB L := by
  have b0 := sl_bound h
  refine ⟨by omega, fun x hx => ?_, fun x hx a ha => ?_, fun x hx a ha it hi => ?_⟩
  · obtain ⟨cs', c0, c1, _, h1, h2⟩ := sl_mem h x hx
    have := sl_bound h2
    exact ⟨by omega, h1.2⟩
  · obtain ⟨cs', c0, c1, _, h1, h2⟩ := sl_mem h x hx
    obtain ⟨cs2, h3⟩ := sl_mem h2 a ha
    have := sl_bound h3
    omega
  · obtain ⟨cs', c0, c1, _, h1, h2⟩ := sl_mem h x hx
    obtain ⟨cs2, h3⟩ := sl_mem h2 a ha
    obtain ⟨cs3, d0, d1, _, h4, h5⟩ := sl_mem h3 it hi
    exact h5.2
theorem lines_arg {w : World} {a : Option Addr} {len cap : Nat} {L : List Ln} {bx : Nat → Nat} {b : Nat} (h : RLnsB w [.slice a len cap] L) : ArgRep w (fun b => b < w.heap.size) bx b (.slice a len cap) (.v false [.sl L.length (ln3C L)]) := by
  obtain ⟨h1, h2⟩ := rdc_lns w _ L h
  exact ⟨_, rfl, h2 0 (by simp) (by simp)⟩
def okLn (x : Ln) : Prop := x.2.length ≤ 10 ∧ x.1.size ≤ 40 ∧ ∀ b, b < x.2.length → (aAt x.2 b).length ≤ 20
theorem sum_le {α : Type} (f : α → Nat) (m : Nat) : ∀ l : List α, (∀ x ∈ l, f x ≤ m) → (l.map f).sum ≤ l.length * m := by
  intro l
  induction l with
  | nil => intro _; simp
  | cons x l ih =>
    intro h
    have h1 := h x (List.mem_cons_self ..)
    have h2 := ih fun y hy => h y (List.mem_cons_of_mem _ hy)
    rw [List.map_cons, List.sum_cons, List.length_cons, Nat.succ_mul]; omega
theorem few_z {L : List Ln} (hB : LnB L) (hn : L.length ≤ 20) (hok : ∀ x ∈ L, okLn x) : (txtL L).size ≤ 1099511627776 ∧ rSz L 1000000 := by
  have hmem : ∀ x ∈ L, ∀ a ∈ x.2, a.length ≤ 20 := fun x hx a ha => by
    obtain ⟨k, hk, rfl⟩ := List.mem_iff_getElem.1 ha
    have := (hok x hx).2.2 k hk
    rw [aAt, List.getD_eq_getElem?_getD, List.getElem?_eq_getElem hk] at this
    exact this
  refine ⟨?_, by omega, fun x hx => ⟨by have := (hok x hx).1; omega, fun a ha => by have := hmem x hx a ha; omega⟩⟩
  have h1 := txt_z L
  have h2 : ∀ x ∈ L, lnZ x ≤ 45 + 10 * (20 * 1048579 + 2) := fun x hx => by
    have k1 : ∀ a ∈ x.2, itsZ a + 2 ≤ 20 * 1048579 + 2 := fun a ha => by
      have k2 : ∀ it ∈ a, itZ it ≤ 1048579 := fun it hi => by have := hB.t x hx a ha it hi; unfold itZ; omega
      have k3 := sum_le itZ 1048579 a k2
      have k4 := hmem x hx a ha
      have k5 : a.length * 1048579 ≤ 20 * 1048579 := Nat.mul_le_mul_right _ k4
      unfold itsZ; omega
    have k6 := sum_le (fun a => itsZ a + 2) (20 * 1048579 + 2) x.2 k1
    have k7 : x.2.length * (20 * 1048579 + 2) ≤ 10 * (20 * 1048579 + 2) := Nat.mul_le_mul_right _ (hok x hx).1
    have k8 := (hok x hx).2.1
    unfold lnZ alsZ; omega
  have h3 := sum_le lnZ _ L h2
  have h4 : L.length * (45 + 10 * (20 * 1048579 + 2)) ≤ 20 * (45 + 10 * (20 * 1048579 + 2)) := Nat.mul_le_mul_right _ hn
  unfold lnsZ at h1
  omega
theorem pc_ParseTextsL (L : List Ln) (hB : LnB L) : PC Try.prog T 3 [.v false [.sl L.length (ln3C L)]] (ret1 (.st (vB true))) [] := by
  have hr := LnRep.of3 L
  have hn := hB.n
  have hcl := hr.1
  have a1 := fun (i : Nat) (h : i < L.length) => hr.2 i h
  have a2 := fun (i : Nat) (h : i < L.length) => hB.a _ (lAt_mem (L := L) (i := i) h)
  have a3 := fun (i : Nat) (h : i < L.length) => hB.i _ (lAt_mem (L := L) (i := i) h)
  have hfew := fun (h1 : L.length ≤ 20) (h2 : ∀ x ∈ L, okLn x) => few_z hB h1 h2
  have hall : (∀ a : Nat, a < L.length → okLn (lAt L a)) → ∀ x ∈ L, okLn x := fun h x hx => by
    obtain ⟨k, hk, rfl⟩ := List.mem_iff_getElem.1 hx
    have := h k hk
    rwa [lAt, List.getD_eq_getElem?_getD, List.getElem?_eq_getElem hk] at this
  have hT : L.length ≤ 20 → (∀ x ∈ L, okLn x) → pc 11 [.v false [.sl L.length (ln3C L)]] (ret1 (.st (vS (txtL (lnsOf (ln3C L)))))) := fun h1 h2 => by
    rw [(LnRep.of3 L).read]
    exact ⟨enters Try.func11 (by kernel_rfl) (by kernel_rfl), pc_Text L _ (LnRep.of3 L) (hfew h1 h2).2 (hfew h1 h2).1⟩
  have hT2 : L.length ≤ 20 → (∀ x ∈ L, okLn x) → pc 12 [.v false [.sl L.length (ln3C L)]] (ret1 (.st (vS (txtL (lnsOf (ln3C L)))))) := fun h1 h2 => by
    rw [(LnRep.of3 L).read]
    exact ⟨enters Try.func12 (by kernel_rfl) (by kernel_rfl), pc_text13 L _ (LnRep.of3 L) (hfew h1 h2).2 (hfew h1 h2).1⟩
  clear hfew hB hr
  generalize hm1 : L.length = n at *
  generalize hcs : ln3C L = cs at *
  refine pc_of tok Try.func3 rfl (by rfl) ?_
  obtain ⟨j, hj⟩ : ∃ j : J, j = std Try.prog T := ⟨_, rfl⟩
  have hm : Try.prog.follows .mixedOrders = true := by kernel_rfl
  generalize y_lnsOf : @lnsOf = x_lnsOf at *
  generalize y_pN : @pN = x_pN at *
  generalize y_pC : @pC = x_pC at *
  generalize y_pA : @pA = x_pA at *
  generalize y_pE : @pE = x_pE at *
  generalize y_txtL : @txtL = x_txtL at *
  generalize y_ln3C : @ln3C = x_ln3C at *
  (repeat' first | ((first | with_reducible refine tr_cut (fun h => ?_) (fun h => ?_) | refine aw_condj (by cbv) (fun h => ?_) (fun h => ?_)) <;> (try simp (disch := omega) only [hj, std, cmpI, cmpB, satB, Bool.not_eq_true, Bool.not_eq_false, decide_eq_true_eq, decide_eq_false_iff_not, beq_iff_eq, bne_iff_ne, bne_eq_false_iff_eq, beq_eq_false_iff_ne, ne_eq, reduceCtorEq, not_true_eq_false, not_false_eq_true, pl0, if_true, cmpS_eq, cmpS_neq, Bool.not_eq_eq_eq_not, Bool.not_true, Bool.not_false, Bool.not_eq_true', add64, sub64] at h) <;> (try (exfalso; omega))) | (with_reducible refine tr_alt (fun h => ?_) ?_ <;> (try (exfalso; omega))) | (with_reducible refine tr_ob ?_ ?_) | (with_reducible refine tr_done ?_) | (refine aw_tr hj tok (bookTB x_lnsOf x_pN x_pC x_pA x_pE x_txtL) (by cbv) ?_) | (refine aw_seq fun K hK => ?_) | (refine aw_tr1 hj tok (bookTB x_lnsOf x_pN x_pC x_pA x_pE x_txtL) (by cbv) ?_) | (refine aw_skip ?_) | (refine aw_block ?_) | (refine aw_exit ?_) | (refine aw_ret ⟨.inr rfl, ret_okj hj (by cbv) ?_ ?_⟩) | (refine aw_ret ?_) | (with_reducible refine th_n ?_) | (with_reducible refine th_r ?_) | (with_reducible refine th_x ?_) | (with_reducible refine blk_n ?_) | (with_reducible refine blk_r ?_) | (with_reducible refine blk_x ?_) | (with_reducible refine blk_y rfl ?_) | (refine ⟨.inr rfl, ret_okj hj (by cbv) ?_ ?_⟩) | (refine ⟨.inl rfl, ret_okj hj (by cbv) ?_ ?_⟩) | ((with_reducible refine ⟨_, by cbv, ?_, ?_⟩)) | (with_reducible apply_assumption -symm -exfalso only [*]))
  all_goals ((try subst y_lnsOf); (try subst y_pN); (try subst y_pC); (try subst y_pA); (try subst y_pE); (try subst y_txtL); (try subst y_ln3C))
  all_goals (try (repeat' first | with_reducible exact obl0 | with_reducible refine obl1 ?_ ?_))
  all_goals (try first | with_reducible exact True.intro | (refine ob_pc hj ?_; (try rw [hj]); first | exact c_awake13b) | (refine ob_pcn hj ?_; (try rw [hj]); first | exact c_awake13b) | ((first | refine ob_le hj ?_ | refine ob_lei hj ?_ | refine ob_inb hj ?_ | refine ob_pos hj ?_ | refine ob_ne0 hj ?_ | refine ob_eqb hj ?_); (first | rfl | first | omega | (simp only [hj, std]; split <;> omega) | (simp (disch := omega) only [hj, std, cmpI, cmpB, satB, add64, sub64, ite0, pl0, pl2, pl3, sb0, if_true, if_false, eq_self] <;> omega) | (simp (disch := omega) [hj, std, cmpI, cmpB, satB, add64, sub64, ite0, pl0, pl2, pl3, sb0, if_true, if_false, eq_self] <;> omega))) | (exact rfl))
  refine aw_lpj hj [(0, .keep), (3, .keep)] [] (fun (i : Int) => stOf 61 [(0, .one (.c (.sl n cs))), (3, .one (.c (vI i)))] []) (fun (i : Int) => n - i.toNat) (fun (i : Int) => 0 ≤ i ∧ i ≤ n ∧ ∀ a : Nat, (a : Int) < i → okLn (lAt L a)) (0) (by generalize @lnsOf = x_lnsOf; generalize @pN = x_pN; generalize @pC = x_pC; generalize @pA = x_pA; generalize @pE = x_pE; generalize @txtL = x_txtL; generalize @ln3C = x_ln3C; cbv) ?_ (fun i hI => ?_)
  · exact ⟨by omega, by omega, fun a h => by omega⟩
  obtain ⟨i1, i2, hI⟩ := hI
  rcases Decidable.em (i < (n : Int)) with hi | hi
  · obtain ⟨b1, b2, b3, b4⟩ := a1 i.toNat (by omega)
    obtain ⟨s1, s2⟩ := a2 i.toNat (by omega)
    have s3 := fun k h => a3 i.toNat (by omega) _ (aAt_mem (A := (lAt L i.toNat).2) (i := k) h)
    have hok : (lAt L i.toNat).2.length ≤ 10 → (lAt L i.toNat).1.size ≤ 40 → (∀ b, b < (lAt L i.toNat).2.length → (aAt (lAt L i.toNat).2 b).length ≤ 20) → ∀ a : Nat, (a : Int) < i + 1 → okLn (lAt L a) := fun h1 h2 h3 a ha => by
      by_cases e : (a : Int) < i
      · exact hI a e
      · obtain rfl : a = i.toNat := by omega
        exact ⟨h1, h2, h3⟩
    generalize lAt L i.toNat = X at *
    obtain ⟨nm, As⟩ := X
    dsimp only at b1 b3 b4 s1 s2 s3 hok
    have e1 : gs (cellAt cs (i.toNat * 2)) = nm := by rw [b1]; rfl
    obtain ⟨l1, l2⟩ := b4
    generalize hds : gc (cellAt cs (i.toNat * 2 + 1)) = ds at *
    have f0 : (i + 1).toNat = i.toNat + 1 := by omega
    generalize y_lnsOf : @lnsOf = x_lnsOf at *
    generalize y_pN : @pN = x_pN at *
    generalize y_pC : @pC = x_pC at *
    generalize y_pA : @pA = x_pA at *
    generalize y_pE : @pE = x_pE at *
    generalize y_txtL : @txtL = x_txtL at *
    generalize y_ln3C : @ln3C = x_ln3C at *
    (repeat' first | ((first | with_reducible refine tr_cut (fun h => ?_) (fun h => ?_) | refine aw_condj (by cbv) (fun h => ?_) (fun h => ?_)) <;> (try simp (disch := omega) only [hj, std, cmpI, cmpB, satB, Bool.not_eq_true, Bool.not_eq_false, decide_eq_true_eq, decide_eq_false_iff_not, beq_iff_eq, bne_iff_ne, bne_eq_false_iff_eq, beq_eq_false_iff_ne, ne_eq, reduceCtorEq, not_true_eq_false, not_false_eq_true, pl0, if_true, cmpS_eq, cmpS_neq, Bool.not_eq_eq_eq_not, Bool.not_true, Bool.not_false, Bool.not_eq_true', e1, b3, ite0, add64, sub64] at h) <;> (try (exfalso; omega))) | (with_reducible refine tr_alt (fun h => ?_) ?_ <;> (try (exfalso; omega))) | (with_reducible refine tr_ob ?_ ?_) | (with_reducible refine tr_done ?_) | (refine aw_tr hj tok (bookTB x_lnsOf x_pN x_pC x_pA x_pE x_txtL) (by cbv) ?_) | (refine aw_seq fun K hK => ?_) | (refine aw_tr1 hj tok (bookTB x_lnsOf x_pN x_pC x_pA x_pE x_txtL) (by cbv) ?_) | (refine aw_skip ?_) | (refine aw_block ?_) | (refine aw_exit ?_) | (refine aw_ret ⟨.inr rfl, ret_okj hj (by cbv) ?_ ?_⟩) | (refine aw_ret ?_) | (with_reducible refine th_n ?_) | (with_reducible refine th_r ?_) | (with_reducible refine th_x ?_) | (with_reducible refine blk_n ?_) | (with_reducible refine blk_r ?_) | (with_reducible refine blk_x ?_) | (with_reducible refine blk_y rfl ?_) | (refine ⟨.inr rfl, ret_okj hj (by cbv) ?_ ?_⟩) | (refine ⟨.inl rfl, ret_okj hj (by cbv) ?_ ?_⟩) | ((with_reducible refine ⟨_, by cbv, ?_, ?_⟩)) | (with_reducible apply_assumption -symm -exfalso only [*]))
    all_goals ((try subst y_lnsOf); (try subst y_pN); (try subst y_pC); (try subst y_pA); (try subst y_pE); (try subst y_txtL); (try subst y_ln3C))
    all_goals (try (repeat' first | with_reducible exact obl0 | with_reducible refine obl1 ?_ ?_))
    all_goals (try first | with_reducible exact True.intro | (refine ob_pc hj ?_; (try rw [hj]); first | exact c_awake13b) | (refine ob_pcn hj ?_; (try rw [hj]); first | exact c_awake13b) | ((first | refine ob_le hj ?_ | refine ob_lei hj ?_ | refine ob_inb hj ?_ | refine ob_pos hj ?_ | refine ob_ne0 hj ?_ | refine ob_eqb hj ?_); (first | rfl | first | omega | (simp only [hj, std]; split <;> omega) | (simp (disch := omega) only [hj, std, cmpI, cmpB, satB, add64, sub64, ite0, pl0, pl2, pl3, sb0, if_true, if_false, eq_self, hcl, e1, b3] <;> omega) | (simp (disch := omega) [hj, std, cmpI, cmpB, satB, add64, sub64, ite0, pl0, pl2, pl3, sb0, if_true, if_false, eq_self, hcl, e1, b3] <;> omega))) | (exact rfl) | ((refine ob_ok hj ?_; simp only [hj, std, ite0]; first | exact b2 | (rw [b1]; exact ⟨_, rfl⟩))))
    refine aw_lpj hj [(0, .keep), (3, .keep), (4, .keep)] [] (fun (k : Int) => stOf 61 [(0, .one (.c (.sl n cs))), (3, .one (.c (vI i))), (4, .one (.c (vI k)))] []) (fun (k : Int) => As.length - k.toNat) (fun (k : Int) => 0 ≤ k ∧ k ≤ As.length ∧ ∀ b : Nat, (b : Int) < k → (aAt As b).length ≤ 20) (0) (by generalize @lnsOf = x_lnsOf; generalize @pN = x_pN; generalize @pC = x_pC; generalize @pA = x_pA; generalize @pE = x_pE; generalize @txtL = x_txtL; generalize @ln3C = x_ln3C; cbv) ?_ (fun k hI => ?_)
    · exact ⟨by omega, by omega, fun a h => by omega⟩
    obtain ⟨k1, k2, hKK⟩ := hI
    rcases Decidable.em (k < (As.length : Int)) with hk | hk
    · obtain ⟨c1, c2, c3⟩ := l2 k.toNat (by omega)
      have s4 := s3 k.toNat (by omega)
      generalize y_lnsOf : @lnsOf = x_lnsOf at *
      generalize y_pN : @pN = x_pN at *
      generalize y_pC : @pC = x_pC at *
      generalize y_pA : @pA = x_pA at *
      generalize y_pE : @pE = x_pE at *
      generalize y_txtL : @txtL = x_txtL at *
      generalize y_ln3C : @ln3C = x_ln3C at *
      (repeat' first | ((first | with_reducible refine tr_cut (fun h => ?_) (fun h => ?_) | refine aw_condj (by cbv) (fun h => ?_) (fun h => ?_)) <;> (try simp (disch := omega) only [hj, std, cmpI, cmpB, satB, Bool.not_eq_true, Bool.not_eq_false, decide_eq_true_eq, decide_eq_false_iff_not, beq_iff_eq, bne_iff_ne, bne_eq_false_iff_eq, beq_eq_false_iff_ne, ne_eq, reduceCtorEq, not_true_eq_false, not_false_eq_true, pl0, if_true, cmpS_eq, cmpS_neq, Bool.not_eq_eq_eq_not, Bool.not_true, Bool.not_false, Bool.not_eq_true', b3, hds, c2, ite0, add64, sub64] at h) <;> (try (exfalso; omega))) | (with_reducible refine tr_alt (fun h => ?_) ?_ <;> (try (exfalso; omega))) | (with_reducible refine tr_ob ?_ ?_) | (with_reducible refine tr_done ?_) | (refine aw_tr hj tok (bookTB x_lnsOf x_pN x_pC x_pA x_pE x_txtL) (by cbv) ?_) | (refine aw_seq fun K hK => ?_) | (refine aw_tr1 hj tok (bookTB x_lnsOf x_pN x_pC x_pA x_pE x_txtL) (by cbv) ?_) | (refine aw_skip ?_) | (refine aw_block ?_) | (refine aw_exit ?_) | (refine aw_ret ⟨.inr rfl, ret_okj hj (by cbv) ?_ ?_⟩) | (refine aw_ret ?_) | (with_reducible refine th_n ?_) | (with_reducible refine th_r ?_) | (with_reducible refine th_x ?_) | (with_reducible refine blk_n ?_) | (with_reducible refine blk_r ?_) | (with_reducible refine blk_x ?_) | (with_reducible refine blk_y rfl ?_) | (refine ⟨.inr rfl, ret_okj hj (by cbv) ?_ ?_⟩) | (refine ⟨.inl rfl, ret_okj hj (by cbv) ?_ ?_⟩) | ((with_reducible refine ⟨_, by cbv, ?_, ?_⟩)) | (with_reducible apply_assumption -symm -exfalso only [*]))
      all_goals ((try subst y_lnsOf); (try subst y_pN); (try subst y_pC); (try subst y_pA); (try subst y_pE); (try subst y_txtL); (try subst y_ln3C))
      all_goals (try (repeat' first | with_reducible exact obl0 | with_reducible refine obl1 ?_ ?_))
      all_goals (try first | with_reducible exact True.intro | (refine ob_pc hj ?_; (try rw [hj]); first | exact c_awake13b) | (refine ob_pcn hj ?_; (try rw [hj]); first | exact c_awake13b) | ((first | refine ob_le hj ?_ | refine ob_lei hj ?_ | refine ob_inb hj ?_ | refine ob_pos hj ?_ | refine ob_ne0 hj ?_ | refine ob_eqb hj ?_); (first | rfl | first | omega | (simp only [hj, std]; split <;> omega) | (simp (disch := omega) only [hj, std, cmpI, cmpB, satB, add64, sub64, ite0, pl0, pl2, pl3, sb0, if_true, if_false, eq_self, hcl, b3, hds, l1, c2] <;> omega) | (simp (disch := omega) [hj, std, cmpI, cmpB, satB, add64, sub64, ite0, pl0, pl2, pl3, sb0, if_true, if_false, eq_self, hcl, b3, hds, l1, c2] <;> omega))) | (exact rfl) | ((refine ob_ok hj ?_; simp only [hj, std, ite0, hds]; first | exact b2 | exact c1)) | ((simp (disch := omega) only [hj, std, add64, ite0]; first | omega | (refine ⟨by omega, by omega, fun b hb => ?_⟩; by_cases e : (b : Int) < k; exact hKK b e; obtain rfl : b = k.toNat := (by omega); omega))))
    · generalize y_lnsOf : @lnsOf = x_lnsOf at *
      generalize y_pN : @pN = x_pN at *
      generalize y_pC : @pC = x_pC at *
      generalize y_pA : @pA = x_pA at *
      generalize y_pE : @pE = x_pE at *
      generalize y_txtL : @txtL = x_txtL at *
      generalize y_ln3C : @ln3C = x_ln3C at *
      (repeat' first | ((first | with_reducible refine tr_cut (fun h => ?_) (fun h => ?_) | refine aw_condj (by cbv) (fun h => ?_) (fun h => ?_)) <;> (try simp (disch := omega) only [hj, std, cmpI, cmpB, satB, Bool.not_eq_true, Bool.not_eq_false, decide_eq_true_eq, decide_eq_false_iff_not, beq_iff_eq, bne_iff_ne, bne_eq_false_iff_eq, beq_eq_false_iff_ne, ne_eq, reduceCtorEq, not_true_eq_false, not_false_eq_true, pl0, if_true, cmpS_eq, cmpS_neq, Bool.not_eq_eq_eq_not, Bool.not_true, Bool.not_false, Bool.not_eq_true', b3, ite0, add64, sub64] at h) <;> (try (exfalso; omega))) | (with_reducible refine tr_alt (fun h => ?_) ?_ <;> (try (exfalso; omega))) | (with_reducible refine tr_ob ?_ ?_) | (with_reducible refine tr_done ?_) | (refine aw_tr hj tok (bookTB x_lnsOf x_pN x_pC x_pA x_pE x_txtL) (by cbv) ?_) | (refine aw_seq fun K hK => ?_) | (refine aw_tr1 hj tok (bookTB x_lnsOf x_pN x_pC x_pA x_pE x_txtL) (by cbv) ?_) | (refine aw_skip ?_) | (refine aw_block ?_) | (refine aw_exit ?_) | (refine aw_ret ⟨.inr rfl, ret_okj hj (by cbv) ?_ ?_⟩) | (refine aw_ret ?_) | (with_reducible refine th_n ?_) | (with_reducible refine th_r ?_) | (with_reducible refine th_x ?_) | (with_reducible refine blk_n ?_) | (with_reducible refine blk_r ?_) | (with_reducible refine blk_x ?_) | (with_reducible refine blk_y rfl ?_) | (refine ⟨.inr rfl, ret_okj hj (by cbv) ?_ ?_⟩) | (refine ⟨.inl rfl, ret_okj hj (by cbv) ?_ ?_⟩) | ((with_reducible refine ⟨_, by cbv, ?_, ?_⟩)) | (with_reducible apply_assumption -symm -exfalso only [*]))
      all_goals ((try subst y_lnsOf); (try subst y_pN); (try subst y_pC); (try subst y_pA); (try subst y_pE); (try subst y_txtL); (try subst y_ln3C))
      all_goals (try (repeat' first | with_reducible exact obl0 | with_reducible refine obl1 ?_ ?_))
      all_goals (try first | with_reducible exact True.intro | ((first | refine ob_le hj ?_ | refine ob_lei hj ?_ | refine ob_inb hj ?_ | refine ob_pos hj ?_ | refine ob_ne0 hj ?_ | refine ob_eqb hj ?_); (first | rfl | first | omega | (simp only [hj, std]; split <;> omega) | (simp (disch := omega) only [hj, std, cmpI, cmpB, satB, add64, sub64, ite0, pl0, pl2, pl3, sb0, if_true, if_false, eq_self, hcl, b3] <;> omega) | (simp (disch := omega) [hj, std, cmpI, cmpB, satB, add64, sub64, ite0, pl0, pl2, pl3, sb0, if_true, if_false, eq_self, hcl, b3] <;> omega))) | ((refine ob_ok hj ?_; simp only [hj, std, ite0]; exact b2)) | ((simp (disch := omega) only [hj, std, add64, ite0]; first | omega | exact ⟨by omega, by omega, hok (by omega) (by omega) fun b hb => hKK b (by omega)⟩)))
  · have h20 : n ≤ 20 := by omega
    have hA := hall fun a ha => hI a (by omega)
    have hT := hT h20 hA
    have hT2 := hT2 h20 hA
    generalize y_lnsOf : @lnsOf = x_lnsOf at *
    generalize y_pN : @pN = x_pN at *
    generalize y_pC : @pC = x_pC at *
    generalize y_pA : @pA = x_pA at *
    generalize y_pE : @pE = x_pE at *
    generalize y_txtL : @txtL = x_txtL at *
    generalize y_ln3C : @ln3C = x_ln3C at *
    (repeat' first | ((first | with_reducible refine tr_cut (fun h => ?_) (fun h => ?_) | refine aw_condj (by cbv) (fun h => ?_) (fun h => ?_)) <;> (try simp (disch := omega) only [hj, std, cmpI, cmpB, satB, Bool.not_eq_true, Bool.not_eq_false, decide_eq_true_eq, decide_eq_false_iff_not, beq_iff_eq, bne_iff_ne, bne_eq_false_iff_eq, beq_eq_false_iff_ne, ne_eq, reduceCtorEq, not_true_eq_false, not_false_eq_true, pl0, if_true, cmpS_eq, cmpS_neq, Bool.not_eq_eq_eq_not, Bool.not_true, Bool.not_false, Bool.not_eq_true', add64, sub64] at h) <;> (try (exfalso; omega))) | (with_reducible refine tr_alt (fun h => ?_) ?_ <;> (try (exfalso; omega))) | (with_reducible refine tr_ob ?_ ?_) | (with_reducible refine tr_done ?_) | (refine aw_tr hj tok (bookTB x_lnsOf x_pN x_pC x_pA x_pE x_txtL) (by cbv) ?_) | (refine aw_seq fun K hK => ?_) | (refine aw_tr1 hj tok (bookTB x_lnsOf x_pN x_pC x_pA x_pE x_txtL) (by cbv) ?_) | (refine aw_skip ?_) | (refine aw_block ?_) | (refine aw_exit ?_) | (refine aw_ret ⟨.inr rfl, ret_okj hj (by cbv) ?_ ?_⟩) | (refine aw_ret ?_) | (with_reducible refine th_n ?_) | (with_reducible refine th_r ?_) | (with_reducible refine th_x ?_) | (with_reducible refine blk_n ?_) | (with_reducible refine blk_r ?_) | (with_reducible refine blk_x ?_) | (with_reducible refine blk_y rfl ?_) | (refine ⟨.inr rfl, ret_okj hj (by cbv) ?_ ?_⟩) | (refine ⟨.inl rfl, ret_okj hj (by cbv) ?_ ?_⟩) | ((with_reducible refine ⟨_, by cbv, ?_, ?_⟩)) | (with_reducible apply_assumption -symm -exfalso only [*]))
    all_goals ((try subst y_lnsOf); (try subst y_pN); (try subst y_pC); (try subst y_pA); (try subst y_pE); (try subst y_txtL); (try subst y_ln3C))
    all_goals (try (repeat' first | with_reducible exact obl0 | with_reducible refine obl1 ?_ ?_))
    all_goals (try first | with_reducible exact True.intro | (refine ob_pc hj ?_; (try rw [hj]); first | exact hT | exact hT2 | exact c_awake13b) | (refine ob_pcn hj ?_; (try rw [hj]); first | exact hT | exact hT2 | exact c_awake13b) | ((first | refine ob_le hj ?_ | refine ob_lei hj ?_ | refine ob_inb hj ?_ | refine ob_pos hj ?_ | refine ob_ne0 hj ?_ | refine ob_eqb hj ?_); (first | rfl | first | omega | (simp only [hj, std]; split <;> omega) | (simp (disch := omega) only [hj, std, cmpI, cmpB, satB, add64, sub64, ite0, pl0, pl2, pl3, sb0, if_true, if_false, eq_self] <;> omega) | (simp (disch := omega) [hj, std, cmpI, cmpB, satB, add64, sub64, ite0, pl0, pl2, pl3, sb0, if_true, if_false, eq_self] <;> omega))) | (exact rfl))
end Go.Proofs.Ytgimfjmigoibgaa.A
/- ParseTexts: the walk, for an argument of small bulk. -/
set_option linter.unusedSimpArgs false
set_option linter.unusedVariables false
set_option maxRecDepth 100000
set_option maxHeartbeats 4000000
namespace Go.Proofs.Ytgimfjmigoibgaa
open Go Go.RowKit
theorem parseTexts_walk (w : World) (a0 : Option Addr) (len0 cap0 : Nat) (x0 : List A.Ln) (R0 : A.RLnsB w (Value.slice a0 len0 cap0).cells.toList x0) :
    Calls Try.prog 3 #[.slice a0 len0 cap0] w fun e w' => e = .returned (.bool true) ∧ Below w.heap.size w w' :=
  A.walk_of_pc (vs := [.slice a0 len0 cap0]) (A.pc_ParseTextsL x0 (A.lines_b R0)) (by simp [A.Arg.asRoot]) (fun b => b < w.heap.size) (fun _ h => h) rfl (fun i h h2 => by
    have h3 : i < 1 := h
    obtain rfl : i = 0 := by omega
    exact A.lines_arg R0)
end Go.Proofs.Ytgimfjmigoibgaa
