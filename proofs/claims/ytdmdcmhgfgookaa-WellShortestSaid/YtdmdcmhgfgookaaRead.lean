/- From the model's reading of an argument to plain predicates on worlds: a reading relation a type, put together from parts. No program in sight. -/
import Derived.Test.YtdmdcmhgfgookaaBas
import Derived.ProofKit
import Derived.OpenShut
import Derived.SizedLaws
import Derived.Deep.Slices
import Derived.Deep.Strs
set_option linter.unusedSimpArgs false
set_option linter.unusedVariables false
set_option maxRecDepth 100000
set_option maxHeartbeats 4000000
namespace Go.Proofs.Ytdmdcmhgfgookaa
open Go.RowKit Go.ChangeShapes Go.WideShapes Go.ChangeAt

/-- what a value's cells read as -/
abbrev Rd (α : Type) := World → List Value → α → Prop

def RInt : Rd Int := fun _ cs n => cs = [.int .i64 n] ∧ -9223372036854775808 ≤ n ∧ n ≤ 9223372036854775807
def RU8 : Rd UInt8 := fun _ cs n => cs = [.int .u8 (n.toNat : Int)]
def RBool : Rd Bool := fun _ cs b => cs = [.bool b]
def RStr : Rd ByteArray := fun _ cs s => cs = [.string s] ∧ s.size ≤ 140737488351232
def RPair {α β : Type} (s1 s2 : Nat) (A : Rd α) (B : Rd β) : Rd (α × β) := fun w cs x => ∃ c1 c2, cs = c1 ++ c2 ∧ c1.length = s1 ∧ c2.length = s2 ∧ A w c1 x.1 ∧ B w c2 x.2
/-- where a slice's elements lie, of sz cells each, and what they read as -/
def SlAt {α : Type} (sz : Nat) (R : Rd α) (w : World) (a : Option Addr) (xs : List α) : Prop :=
  0 < xs.length → ∃ b off, a = some ⟨b, off, none⟩ ∧ b < w.heap.size ∧ ∀ i (h : i < xs.length), ∃ cs, cs.length = sz ∧ (∀ j, j < sz → w.cell? ⟨b, off + (i * sz + j), none⟩ = cs[j]?) ∧ R w cs xs[i]
def RSl {α : Type} (sz by_ : Nat) (R : Rd α) : Rd (List α) := fun w cs xs => ∃ a cap, cs = [.slice a xs.length cap] ∧ SlAt sz R w a xs ∧ xs.length ≤ cap ∧ cap * by_ ≤ 140737488351232 ∧ cap ≤ maxLen ∧ (a = none → cap = 0)

/-- it stays in every later world that is as it was below -/
def Stays {α : Type} (R : Rd α) : Prop := ∀ (w w' : World) cs x, R w cs x → Below w.heap.size w w' → R w' cs x
theorem stays_int : Stays RInt := fun _ _ _ _ h _ => h
theorem stays_u8 : Stays RU8 := fun _ _ _ _ h _ => h
theorem stays_bool : Stays RBool := fun _ _ _ _ h _ => h
theorem stays_str : Stays RStr := fun _ _ _ _ h _ => h
theorem stays_pair {α β : Type} {s1 s2 : Nat} {A : Rd α} {B : Rd β} (ha : Stays A) (hb : Stays B) : Stays (RPair s1 s2 A B) := by
  rintro w w' cs x ⟨c1, c2, h1, h2, h3, h4, h5⟩ hbel
  exact ⟨c1, c2, h1, h2, h3, ha _ _ _ _ h4 hbel, hb _ _ _ _ h5 hbel⟩
theorem SlAt.stays {α : Type} {sz : Nat} {R : Rd α} (hR : Stays R) {w w' : World} {a : Option Addr} {xs : List α} (h : SlAt sz R w a xs) {B : Nat} (hB : w.heap.size ≤ B) (hb : Below B w w') : SlAt sz R w' a xs := by
  intro h0
  obtain ⟨b, off, rfl, hlt, hc⟩ := h h0
  have hbel : Below w.heap.size w w' := hb.mono hB
  refine ⟨b, off, rfl, Nat.lt_of_lt_of_le hlt hb.size, fun i hi => ?_⟩
  obtain ⟨cs, hl, hcell, hr⟩ := hc i hi
  exact ⟨cs, hl, fun j hj => (hbel.cell (p := ⟨b, off + (i * sz + j), none⟩) hlt).trans (hcell j hj), hR _ _ _ _ hr hbel⟩
theorem stays_sl {α : Type} {sz by_ : Nat} {R : Rd α} (hR : Stays R) : Stays (RSl sz by_ R) := by
  rintro w w' cs xs ⟨a, cap, h1, h2, h3⟩ hbel
  exact ⟨a, cap, h1, h2.stays hR (Nat.le_refl _) hbel, h3⟩

/-! ### from the model's reading -/
section
variable {H : Type} {enc : TypeId × Value → H} {P : Program} {w : World}
/-- every value that the model reads as data of type t, within the reach, reads so -/
def Lk {α : Type} (enc : TypeId × Value → H) (P : Program) (w : World) (t : TypeId) (R : Rd α) : Prop :=
  ∀ (fuel : Nat) (cs : List Value) (x : DataW H × List MemPlace), DataW.trod enc P w 0 (fun _ => true) true fuel t cs = some x → (x.1.weights P t).all (· ≤ reachBytes) = true → ∃ a, R w cs a

theorem lk_int {t : TypeId} (ht : P.underlying t = some (.int .i64)) : Lk enc P w t RInt := by
  intro fuel cs x h _
  obtain ⟨n, rfl, _, hw⟩ := DataW.trod_int ht h
  refine ⟨n, rfl, ?_⟩
  simpa [Lit.wf, IntKind.min, IntKind.max, IntKind.signed, IntKind.bits] using hw
theorem lk_u8 {t : TypeId} (ht : P.underlying t = some (.int .u8)) : Lk enc P w t RU8 := by
  intro fuel cs x h _
  obtain ⟨n, rfl, _, hw⟩ := DataW.trod_int ht h
  have hb : 0 ≤ n ∧ n ≤ 255 := by simpa [Lit.wf, IntKind.min, IntKind.max, IntKind.signed, IntKind.bits] using hw
  refine ⟨UInt8.ofNat n.toNat, ?_⟩
  show _ = _
  rw [UInt8.toNat_ofNat_of_lt' (by show n.toNat < 256; omega)]
  congr 2; omega
theorem lk_bool {t : TypeId} (ht : P.underlying t = some .bool) : Lk enc P w t RBool := by
  intro fuel cs x h _
  obtain ⟨b, rfl, _⟩ := DataW.trod_bool ht h
  exact ⟨b, rfl⟩
theorem lk_str {t : TypeId} (ht : P.underlying t = some .string) : Lk enc P w t RStr := by
  intro fuel cs x h hz
  obtain ⟨s, rfl, rfl, _⟩ := DataW.trod_string ht h
  refine ⟨s, rfl, ?_⟩
  have h1 := List.all_eq_true.1 hz s.data.toList.length (by simp [DataW.weights])
  have h2 : s.data.toList.length ≤ reachBytes := of_decide_eq_true h1
  simp only [reachBytes, Array.length_toList] at h2
  exact h2

theorem mem_weightsAll {t : TypeId} {l : List (DataW H)} {d : DataW H} (h : d ∈ l) {n : Nat} (hn : n ∈ d.weights P t) : n ∈ DataW.weightsAll P t l := by
  induction l with
  | nil => cases h
  | cons a l ih =>
    rw [DataW.weightsAll]
    rcases List.mem_cons.1 h with rfl | h
    · exact List.mem_append.2 (.inl hn)
    · exact List.mem_append.2 (.inr (ih h))

theorem lk_sl {α : Type} {t e : TypeId} {sz by_ : Nat} {R : Rd α} (ht : P.underlying t = some (.slice e)) (hsz : P.cellsOf e = sz) (hpos : 0 < sz) (hby : P.bytesOf e = by_) (hR : Lk enc P w e R) : Lk enc P w t (RSl sz by_ R) := by
  intro fuel cs x h hz
  subst hsz; subst hby
  rcases Deep.open_slice ht h with ⟨rfl, rfl⟩ | ⟨a, len, cap, m, n, D, Pl, rfl, _, hl, hm, rfl, rfl, hel⟩
  · exact ⟨[], none, 0, rfl, fun h0 => absurd h0 (by simp), Nat.le_refl _, by simp, by simp, fun _ => rfl⟩
  · simp only [if_true] at hel hz
    have hz1 := List.all_eq_true.1 hz
    have hbig : m * P.bytesOf e ≤ 140737488351232 := by
      have h1 := hz1 ((len + (m - len)) * P.bytesOf e) (by simp [DataW.weights, ht])
      have h2 : (len + (m - len)) * P.bytesOf e ≤ reachBytes := of_decide_eq_true h1
      rw [show len + (m - len) = m by omega] at h2
      simp only [reachBytes] at h2
      exact h2
    have helem : ∀ i, i < len → ((D i).weights P e).all (· ≤ reachBytes) = true := by
      intro i hi
      refine List.all_eq_true.2 fun k hk => hz1 k ?_
      simp only [DataW.weights, ht, List.mem_cons, List.mem_append]
      exact .inr (.inl (mem_weightsAll (List.mem_map.2 ⟨i, List.mem_range.2 hi, rfl⟩) hk))
    have hx : ∃ xs : List α, xs.length = len ∧ ∀ i (hi : i < xs.length), ∃ cs', w.cells? 0 (a.add (i * P.cellsOf e)) (P.cellsOf e) = some cs' ∧ R w cs' xs[i] := by
      have key : ∀ k, k ≤ len → ∃ xs : List α, xs.length = k ∧ ∀ i (hi : i < xs.length), ∃ cs', w.cells? 0 (a.add (i * P.cellsOf e)) (P.cellsOf e) = some cs' ∧ R w cs' xs[i] := by
        intro k
        induction k with
        | zero => intro _; exact ⟨[], rfl, fun i hi => absurd hi (by simp)⟩
        | succ k ih =>
          intro hk
          obtain ⟨xs, hxl, hxs⟩ := ih (by omega)
          obtain ⟨cs', h1, h2⟩ := hel k (by omega)
          obtain ⟨v, hv⟩ := hR _ _ _ h2 (helem k (by omega))
          refine ⟨xs ++ [v], by simp [hxl], fun i hi => ?_⟩
          by_cases hik : i < xs.length
          · rw [List.getElem_append_left hik]; exact hxs i hik
          · have : i = k := by simp at hi; omega
            subst this
            rw [List.getElem_append_right (by omega)]
            simp only [hxl, Nat.sub_self, List.getElem_cons_zero]
            exact ⟨cs', h1, hv⟩
      exact key len (Nat.le_refl _)
    obtain ⟨xs, hxl, hxs⟩ := hx
    subst hxl
    refine ⟨xs, some a, m, rfl, fun h0 => ?_, hl, hbig, hm, fun h => by cases h⟩
    obtain ⟨cs0, h00, _⟩ := hxs 0 h0
    have hb := World.cells?_block h00 hpos
    obtain ⟨b, off, spot⟩ := a
    have hspot : spot = none := by
      obtain ⟨_, hcl, hcc⟩ := World.cells?_some h00
      have h1 := hcc 0 (by omega)
      rw [List.getElem?_eq_getElem (by omega)] at h1
      have := World.cell?_spot h1
      simpa [Addr.add] using this
    subst hspot
    refine ⟨b, off, rfl, by simpa [Addr.add_lit] using hb, fun i hi => ?_⟩
    obtain ⟨cs', h1, h2⟩ := hxs i hi
    obtain ⟨_, hcl, hcc⟩ := World.cells?_some h1
    refine ⟨cs', hcl, fun j hj => ?_, h2⟩
    have := hcc j hj
    rw [Addr.add_lit, Addr.add_lit] at this
    rw [← this, Nat.add_assoc]
end
end Go.Proofs.Ytdmdcmhgfgookaa
