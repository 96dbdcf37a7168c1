/- What InodePlays needs beyond, part 1. -/
import Derived.Test.YtnmlcfjljeccnaaMz4
import Derived.WalkKit
import Derived.Deep.RegionHeld3
import Derived.Deep.AppendLies
import Derived.WalkSpells
import Derived.WalkLawsBesides
import Derived.Lib.Hide
import Derived.Laws.AppendOwnNone
import Derived.Laws.CopyOwn
import Derived.BigQuiet
import Derived.Deep.QuietTactic
import Derived.ProofKit
import Derived.OpenShut
import Derived.SizedLaws
import Derived.Deep.Slices
import Derived.Deep.Strs
import Derived.Test.YtnmlcfjljeccnaaProg
import Derived.BigRegion
import Derived.StillTailTactics
import Derived.Lib.SlBytesConst
/- Base lemmas of this prover: byte arrays, slices of strings that came in or were made. No program in sight. -/
set_option linter.unusedSimpArgs false
set_option linter.unusedVariables false
set_option maxRecDepth 100000
set_option maxHeartbeats 4000000
namespace Go.Proofs.Ytnmlcfjljeccnaa
open Go.RowKit
theorem ret_int {a b : Int} (h : a = b) : Ending.returned (.int .i64 a) = .returned (.int .i64 b) := by rw [h]
end Go.Proofs.Ytnmlcfjljeccnaa
/- Worlds that change at some blocks alone; owned rows cut, read, and appended to from whatever source. No program in sight. -/
set_option linter.unusedSimpArgs false
set_option linter.unusedVariables false
set_option maxRecDepth 100000
set_option maxHeartbeats 4000000
namespace Go.Proofs.Ytnmlcfjljeccnaa
open Go.RowKit
theorem owns_full {w : World} {B : Nat} {e : TypeId} {g n : Nat} {xs : List Value} (h : w.ownsRow B e 1 (.slice (some ⟨g, 0, none⟩) n n) n xs) : w.heap[g]? = some (.cells xs.toArray e (0, 0)) := by
  rcases h.2 with ⟨hv, _⟩ | ⟨g', cap, cur, hv, _, hheap, _, _, h5, h6⟩
  · cases hv
  · cases hv
    rw [hheap, ← h6, List.take_of_length_le (by simp [h5])]
theorem owns_block {w : World} {B : Nat} {e : TypeId} {g n : Nat} {xs : List Value} (h : w.heap[g]? = some (.cells xs.toArray e (0, 0))) (hB : B ≤ g) (hn : xs.length = n) (hm : n ≤ maxLen) : w.ownsRow B e 1 (.slice (some ⟨g, 0, none⟩) n n) n xs :=
  ⟨by omega, .inr ⟨g, n, xs.toArray, rfl, hB, h, Nat.le_refl _, hm, by simp [hn], by rw [List.take_of_length_le (by simp [hn])]⟩⟩
theorem Src.stays {w w' : World} {x : Value} {m : Nat} {news : List Value} (h : Src w x m news) (hb : ∀ p : Addr, p.block < w.heap.size → w'.cell? p = w.cell? p) : Src w' x m news := by
  rcases h with h | ⟨ad, c, rfl, hc⟩
  · exact .inl h
  · refine .inr ⟨ad, c, rfl, fun j u hj => ?_⟩
    have h1 := hc j u hj
    rw [hb _ ?_]
    · exact h1
    · exact World.block_lt_of_cell? w _ h1
section
variable {P : Program} {ops : Array Oper} {o : Oper} {a : Act} {Q : Exit → Act → World → Prop}
theorem wp_append_src (w : World) {K : Act → World → Prop} (s x : Operand) (t : TypeId)
    (ho : o.op = .call { callee := .builtin .append, args := #[s, x], argTypes := #[t, t] })
    (base : Nat) (e : TypeId) (i : TypeInfo) (z : Value) (size bytes : Nat) (ht : P.underlying t = some (.slice e)) (hi : P.info? e = some i) (hz : i.zero = some z)
    (hsize : i.size = size) (hby : i.bytes = bytes) (hzs : z.cells.size = size) (hsz : 0 < size)
    (v : Value) (n : Nat) (xs : List Value) (hs : a.eval s = v) (hown : w.ownsRow base e size v n xs)
    (xv : Value) (m : Nat) (news : List Value) (hx : a.eval x = xv) (hl : news.length = m * size) (hsrc : Src w xv m news) (h1 : ∀ u ∈ news, u.oneCell' = true)
    (h63 : n + m ≤ maxLen) (hbytes : (n + m) * bytes ≤ 140737488355328) (hbase : base ≤ w.heap.size)
    (h : ∀ v' w', w'.ownsRow base e size v' (n + m) (xs ++ news) → w'.ownsRow base e size v n xs → w.grownBy w' v.ownBlock → (v'.ownBlock = v.ownBlock ∨ v'.ownBlock = some w.heap.size) → (v' = .slice none 0 0 ↔ v = .slice none 0 0 ∧ m = 0) → K (a.put o.dst v') w') : o.wp P a w K Q := by
  obtain ⟨v', w', hr, h2, h3, h4, h5, h6⟩ := run_append_src (P := P) w t o.type base e i z size bytes ht hi hz hsize hby hzs hsz v n xs hown xv m news hl hsrc h1 h63 hbytes hbase
  unfold Oper.wp execOp
  simp only [ho, resolve, invoke, builtin, Sem.run_bind, Sem.run_pure, Result.andThen_ok, List.map_toArray, List.map_cons, List.map_nil, hs, hx, hr]
  exact h v' w' h2 h3 h4 h5 h6
theorem wpList_append_src (w : World) {rest : List Oper} (hgd : o.guard = none) (s x : Operand) (t : TypeId)
    (ho : o.op = .call { callee := .builtin .append, args := #[s, x], argTypes := #[t, t] })
    (base : Nat) (e : TypeId) (i : TypeInfo) (z : Value) (size bytes : Nat) (ht : P.underlying t = some (.slice e)) (hi : P.info? e = some i) (hz : i.zero = some z)
    (hsize : i.size = size) (hby : i.bytes = bytes) (hzs : z.cells.size = size) (hsz : 0 < size)
    (v : Value) (n : Nat) (xs : List Value) (hs : a.eval s = v) (hown : w.ownsRow base e size v n xs)
    (xv : Value) (m : Nat) (news : List Value) (hx : a.eval x = xv) (hl : news.length = m * size) (hsrc : Src w xv m news) (h1 : ∀ u ∈ news, u.oneCell' = true)
    (h63 : n + m ≤ maxLen) (hbytes : (n + m) * bytes ≤ 140737488355328) (hbase : base ≤ w.heap.size)
    (h : ∀ v' w', w'.ownsRow base e size v' (n + m) (xs ++ news) → w'.ownsRow base e size v n xs → w.grownBy w' v.ownBlock → (v'.ownBlock = v.ownBlock ∨ v'.ownBlock = some w.heap.size) → (v' = .slice none 0 0 ↔ v = .slice none 0 0 ∧ m = 0) → wpList P ops Q rest (a.put o.dst v') w') : wpList P ops Q (o :: rest) a w :=
  wpList_plain hgd fun _ hK => wp_append_src w s x t ho base e i z size bytes ht hi hz hsize hby hzs hsz v n xs hs hown xv m news hx hl hsrc h1 h63 hbytes hbase fun v' w' h2 h3 h4 h5 h6 => hK _ _ (h v' w' h2 h3 h4 h5 h6)
end
end Go.Proofs.Ytnmlcfjljeccnaa
/- The ghost machine, part 27: the moves of a proof. -/
set_option linter.unusedSimpArgs false
set_option linter.unusedVariables false
set_option maxRecDepth 100000
set_option maxHeartbeats 4000000
namespace Go.Proofs.Ytnmlcfjljeccnaa.A
open Go Go.RowKit
variable {P : Program} {T : TT} {st st' : St} {Q : Exit → St → Prop}
def rets (l : List (Bool × List RC)) : RV := ⟨true, l⟩
abbrev vU (n : Int) : C := .val (.int .u8 n)
end Go.Proofs.Ytnmlcfjljeccnaa.A
/- The ghost machine, between parts 27 and 28: boxes that nobody changes any more; arrays. -/
set_option linter.unusedSimpArgs false
set_option linter.unusedVariables false
set_option maxRecDepth 100000
set_option maxHeartbeats 4000000
namespace Go.Proofs.Ytnmlcfjljeccnaa.A
open Go Go.RowKit
variable {P : Program} {T : TT} {w w' w0 : World} {S S0 : Nat → Prop} {F : Fr} {bx : Nat → Nat} {ph : Nat → Nat → Pv} {a : Act} {st st' : St} {Q : Exit → St → Prop}
/-! ### a box that nobody changes any more -/
def stCells : List RC → Option (List C)
  | [] => some []
  | .st c :: r => match stCells r with | some l => some (c :: l) | none => none
  | _ :: _ => none
theorem stCells_get : ∀ (row : List RC) (cs : List C), stCells row = some cs → row = cs.map .st := by
  intro row
  induction row with
  | nil => intro cs h; simp only [stCells, Option.some.injEq] at h; subst h; rfl
  | cons rc row ih =>
    intro cs h
    cases rc with
    | st c =>
      unfold stCells at h
      split at h
      · rename_i l hl; cases h; rw [ih l hl]; rfl
      · cases h
    | own e n cells => cases h
    | map kk m => cases h
    | tree sh c p => cases h
    | me f => cases h
    | dead => cases h
def fbX (t : Nat) (cells : List C) (x : X) : X :=
  if ofRoot t x then match x with | .ptr _ o => .mem cells o | _ => .undef else x
def frzBox (t : Nat) (st : St) : Option St :=
  match rootOf st.r t with
  | .box row => match stCells row with | some cs => some { s := st.s.map (mapV (fbX t cs)), r := st.r.set t .none } | none => none
  | _ => none
theorem frzBox_le {t : Nat} (hf : frzBox t st = some st') : Le T st st' := by
  intro w0 S0 F a w ⟨S, bx, ph, h, hsp⟩
  unfold frzBox at hf
  split at hf
  · rename_i row hrow
    split at hf
    · rename_i cs hcs
      cases hf
      have hrow' : st.r.getD t .none = .box row := hrow
      have hr := stCells_get row cs hcs
      have hown := owns_of_box (bx := bx) (ph := ph) hrow'
      have hbox := h.heap.root t
      rw [hrow'] at hbox
      obtain ⟨⟨arr, e, hb, hsz, harr⟩, hcell⟩ := hbox
      have hg : ∀ v, (st.r.set t .none).getD v .none = if v = t then .none else st.r.getD v .none := fun v => by
        rw [getD_set]
        by_cases e1 : v = t
        · subst e1
          by_cases e2 : v < st.r.length
          · simp [e2]
          · simp only [e2, and_false, if_false, if_true]
            rw [List.getD_eq_getElem?_getD, List.getElem?_eq_none (by omega)]; rfl
        · rw [if_neg (fun hh => e1 hh.1.symm), if_neg e1]
      have hown' : ∀ v κ b, owns (st.r.set t .none) bx ph v κ b → v ≠ t ∧ owns st.r bx ph v κ b := fun v κ b hb => by
        by_cases e1 : v = t
        · subst e1
          exact (owns_none _ _ _ (by rw [hg, if_pos rfl]) _ _ hb).elim
        · refine ⟨e1, ?_⟩
          cases κ with
          | none =>
            obtain ⟨row', k1, rfl⟩ := owns_box hb
            rw [hg, if_neg e1] at k1; exact owns_of_box k1
          | some o =>
            obtain ⟨rc, k1, k2⟩ := owns_cell hb
            rw [hg, if_neg e1] at k1; exact own_blk k1 k2
      have hheap : Heap T w (fun b => S b ∨ b = bx t) (st.r.set t .none) bx ph := by
        refine ⟨fun v => ?_, fun v κ v2 κ2 b b1 b2 => h.heap.inj v κ v2 κ2 b (hown' v κ b b1).2 (hown' v2 κ2 b b2).2, fun v κ b b1 => ?_, ⟨fun b hb => ?_, h.heap.low.2.frame (fun _ _ => rfl) (fun _ h => .inl h)⟩⟩
        · rw [hg]
          split
          · trivial
          · have hr := h.heap.root v
            cases hR : st.r.getD v .none with
            | none => trivial
            | box row =>
              rw [hR] at hr
              exact ⟨hr.1, fun o ho => (hr.2.1 o ho).frame (fun _ _ => rfl) (fun _ h => .inl h) (fun _ _ => rfl), hr.2.2⟩
            | loose row =>
              rw [hR] at hr
              exact fun o ho => (hr o ho).frame (fun _ _ => rfl) (fun _ h => .inl h) (fun _ _ => rfl)
        · obtain ⟨n1, c1⟩ := hown' v κ b b1
          refine ⟨fun hs => ?_, (h.heap.free v κ b c1).2⟩
          rcases hs with hs | hs
          · exact (h.heap.free v κ b c1).1 hs
          · subst hs; exact n1 (h.heap.inj _ _ _ _ _ c1 hown).1
        · rcases hb with hb | hb
          · exact h.heap.low.1 b hb
          · subst hb; exact (h.heap.free _ _ _ hown).2
      refine ⟨_, bx, ph, h.ghost (fbX t cs) rfl (by simp) hheap (fun v κ b hb => ⟨v, κ, (hown' v κ b hb).2⟩) (fun u y hu => ?_) (fun _ h => .inl h) (fun b hb => ?_), ?_⟩
      · unfold fbX
        split
        · split
          · rename_i t' o hof
            have e1 : t' = t := by simpa [ofRoot] using hof
            subst e1
            obtain ⟨row', q1, q2, q3⟩ := hu
            refine ⟨bx t', 0, fun k => (ph t' k).v, by rw [q3, Nat.zero_add], .inr rfl, fun k hk => ?_, fun k hk => ?_⟩
            · have hk2 : k < row.length := by rw [hr, List.length_map]; exact hk
              rw [Nat.zero_add]
              simp [World.cell?, hb, harr k hk2]
            · have hk2 : k < row.length := by rw [hr, List.length_map]; exact hk
              have h3 := hcell.1 k hk2
              have e2 : row[k] = .st cs[k] := by simp [hr]
              rw [e2] at h3
              exact CRep.frame h3 (fun _ _ => rfl) (fun _ h => .inl h)
          · trivial
        · rename_i hof
          refine (hu.frame (w' := w) (S' := fun b => S b ∨ b = bx t) (fun _ _ => rfl) (fun _ h => .inl h)).congr (fun t' o' rc' ho' how hc' => ⟨?_, rfl⟩) (fun t' o' he row h1 h2 => ?_) (fun f caps he t' ht row h1 => ?_)
          · have n1 : t' ≠ t := fun e1 => by
              subst e1
              rw [hrow'] at hc'
              have hc2 : row[o']? = some rc' := hc'
              rw [hr, List.getElem?_map] at hc2
              cases hq : cs[o']? with
              | none => rw [hq] at hc2; cases hc2
              | some c => rw [hq] at hc2; cases hc2; cases how
            rw [hg, if_neg n1]; exact hc'
          · have n1 : t' ≠ t := fun e1 => by subst e1; subst he; simp [ofRoot] at hof
            exact ⟨row, by rw [hg, if_neg n1]; exact h1, h2, rfl⟩
          · have n1 : t' ≠ t := fun e1 => by subst e1; exact hof (ofRoot_caps he ht)
            exact ⟨row, by rw [hg, if_neg n1]; exact h1, rfl, rfl⟩
      · rcases hb with hb | hb
        · exact .inl hb
        · exact .inr ⟨t, none, by rw [hb]; exact hown⟩
      · show (st.r.set t .none).getD (st.s.map (mapV (fbX t cs))).length .none = .none
        rw [List.length_map, hg]
        split
        · rfl
        · exact hsp
    · cases hf
  · cases hf
theorem aw_frz {c : Code} (t : Nat) (hf : frzBox t st = some st') (h : Aw P T c Q st') : Aw P T c Q st := aw_le (frzBox_le hf) h
/-! ### arrays -/
end Go.Proofs.Ytnmlcfjljeccnaa.A
/- The ghost machine, part 32: obligations by their heads. -/
set_option linter.unusedSimpArgs false
set_option linter.unusedVariables false
set_option maxRecDepth 100000
set_option maxHeartbeats 4000000
namespace Go.Proofs.Ytnmlcfjljeccnaa.A
open Go
variable {P : Program} {T : TT} {j : J}
theorem ob_isBytes (hj : j = std P T) {cs : List C} (h : isBytesC cs) : j.isBytes cs := by rw [hj]; exact h
end Go.Proofs.Ytnmlcfjljeccnaa.A
/- From the model's reading of an argument to plain predicates on worlds: a reading relation a type, put together from parts. No program in sight. -/
set_option linter.unusedSimpArgs false
set_option linter.unusedVariables false
set_option maxRecDepth 100000
set_option maxHeartbeats 4000000
namespace Go.Proofs.Ytnmlcfjljeccnaa
open Go.RowKit Go.ChangeShapes Go.WideShapes Go.ChangeAt
def RU8 : Rd UInt8 := fun _ cs n => cs = [.int .u8 (n.toNat : Int)]
def Stays {α : Type} (R : Rd α) : Prop := ∀ (w w' : World) cs x, R w cs x → Below w.heap.size w w' → R w' cs x
theorem SlAt.stays {α : Type} {sz : Nat} {R : Rd α} (hR : Stays R) {w w' : World} {a : Option Addr} {xs : List α} (h : SlAt sz R w a xs) {B : Nat} (hB : w.heap.size ≤ B) (hb : Below B w w') : SlAt sz R w' a xs := by
  intro h0
  obtain ⟨b, off, rfl, hlt, hc⟩ := h h0
  have hbel : Below w.heap.size w w' := hb.mono hB
  refine ⟨b, off, rfl, Nat.lt_of_lt_of_le hlt hb.size, fun i hi => ?_⟩
  obtain ⟨cs, hl, hcell, hr⟩ := hc i hi
  exact ⟨cs, hl, fun j hj => (hbel.cell (p := ⟨b, off + (i * sz + j), none⟩) hlt).trans (hcell j hj), hR _ _ _ _ hr hbel⟩
/-! ### from the model's reading -/
section
variable {H : Type} {enc : TypeId × Value → H} {P : Program} {w : World}
theorem lk_u8 {t : TypeId} (ht : P.underlying t = some (.int .u8)) : Lk enc P w t RU8 := by
  intro fuel cs x h _
  obtain ⟨n, rfl, _, hw⟩ := DataW.trod_int ht h
  have hb : 0 ≤ n ∧ n ≤ 255 := by simpa [Lit.wf, IntKind.min, IntKind.max, IntKind.signed, IntKind.bits] using hw
  refine ⟨UInt8.ofNat n.toNat, ?_⟩
  show _ = _
  rw [UInt8.toNat_ofNat_of_lt' (by show n.toNat < 256; omega)]
  congr 2; omega
end
end Go.Proofs.Ytnmlcfjljeccnaa
/- The ghost machine, part 34: from what an argument reads as to the machine's cells. -/
set_option linter.unusedSimpArgs false
set_option linter.unusedVariables false
set_option maxRecDepth 100000
set_option maxHeartbeats 4000000
namespace Go.Proofs.Ytnmlcfjljeccnaa.A
open Go
theorem rdc_u8 : RdC RU8 fun b => [vU (b.toNat : Int)] := by rintro w cs b rfl; exact rdc_one (.val rfl)
end Go.Proofs.Ytnmlcfjljeccnaa.A
/- Lists as cells. -/
set_option linter.unusedSimpArgs false
set_option linter.unusedVariables false
set_option maxRecDepth 100000
set_option maxHeartbeats 4000000
namespace Go.Proofs.Ytnmlcfjljeccnaa.A
open Go
/-! ### lists of strings, of integers, of bools -/
def iC (l : List Int) : List C := l.map vI
def nI (l : List Int) : Nat := l.foldr (fun _ n => n + 1) 0
theorem nI_eq (l : List Int) : nI l = l.length := by unfold nI; induction l with | nil => rfl | cons x l ih => rw [List.foldr_cons, ih]; rfl
theorem map_at {α : Type} (g : α → C) (l : List α) (k : Nat) : cellAt (l.map g) k = match l[k]? with | some x => g x | none => .nil := by
  unfold cellAt
  rw [List.getD_eq_getElem?_getD, List.getElem?_map]
  cases l[k]? <;> rfl
theorem iC_len (l : List Int) : (iC l).length = nI l := by simp [iC, nI_eq]
theorem ok_iC {l : List Int} {k : Nat} (h : k < l.length) : okK (.int .i64) (cellAt (iC l) k) := by
  unfold iC; rw [map_at, List.getElem?_eq_getElem h]; exact ⟨_, rfl⟩
theorem map_set {α : Type} (g : α → C) (l : List α) {k : Nat} (x : α) (h : k < l.length) : setC (l.map g) k [g x] = (l.set k x).map g := by
  unfold setC
  rw [List.map_set, List.set_eq_take_append_cons_drop, if_pos (by simpa using h)]
  simp
theorem iC_flat (l : List Int) : l.flatMap (fun s => [vI s]) = iC l := by induction l with | nil => rfl | cons x l ih => rw [List.flatMap_cons, ih]; rfl
/-! ### slices of slices -/
/-! ### from place to place -/
theorem ret1_c {c d : RC} (h : c = d) : (⟨false, [(false, [c])]⟩ : RV) = ret1 d := by rw [h]; rfl
theorem own_eq {e : TypeId} {n n' : Nat} {c c' : List C} (h : n = n') (h2 : c = c') : RC.own e n c = .own e n' c' := by rw [h, h2]
end Go.Proofs.Ytnmlcfjljeccnaa.A
/- Readings of structs whose fields take one cell each. No program in sight. -/
set_option linter.unusedSimpArgs false
set_option linter.unusedVariables false
set_option maxRecDepth 100000
set_option maxHeartbeats 4000000
namespace Go.Proofs.Ytnmlcfjljeccnaa
open Go.RowKit Go.ChangeShapes Go.WideShapes Go.ChangeAt
def RRec4 {α β γ δ : Type} (A : Rd α) (B : Rd β) (C : Rd γ) (D : Rd δ) : Rd (α × β × γ × δ) := fun w cs x => ∃ c0 c1 c2 c3, cs = [c0, c1, c2, c3] ∧ A w [c0] x.1 ∧ B w [c1] x.2.1 ∧ C w [c2] x.2.2.1 ∧ D w [c3] x.2.2.2
section
variable {H : Type} {enc : TypeId × Value → H} {P : Program} {w : World}
theorem lk_rec4 {α β γ δ : Type} {A : Rd α} {B : Rd β} {C : Rd γ} {D : Rd δ} {t : TypeId} {f0 f1 f2 f3 : Field} (ht : P.underlying t = some (.struct #[f0, f1, f2, f3])) (ho : (f0.offset, f1.offset, f2.offset, f3.offset, P.cellsOf f0.type, P.cellsOf f1.type, P.cellsOf f2.type, P.cellsOf f3.type, P.cellsOf t) = (0, 1, 2, 3, 1, 1, 1, 1, 4))
    (ha : Lk enc P w f0.type A) (hb : Lk enc P w f1.type B) (hc : Lk enc P w f2.type C) (hd : Lk enc P w f3.type D) : Lk enc P w t (RRec4 A B C D) := by
  intro fuel cs x h hz
  simp only [Prod.mk.injEq] at ho
  obtain ⟨o0, o1, o2, o3, k0, k1, k2, k3, k⟩ := ho
  have hl := lk_len ht h
  rw [k] at hl
  match cs, hl with
  | [c0, c1, c2, c3], _ =>
    obtain ⟨a, h0⟩ := lk_fld ht 0 f0 rfl ha _ _ _ h hz
    obtain ⟨b, h1⟩ := lk_fld ht 1 f1 rfl hb _ _ _ h hz
    obtain ⟨c, h2⟩ := lk_fld ht 2 f2 rfl hc _ _ _ h hz
    obtain ⟨d, h3⟩ := lk_fld ht 3 f3 rfl hd _ _ _ h hz
    rw [o0, k0] at h0; rw [o1, k1] at h1; rw [o2, k2] at h2; rw [o3, k3] at h3
    exact ⟨(a, b, c, d), c0, c1, c2, c3, rfl, h0, h1, h2, h3⟩
end
end Go.Proofs.Ytnmlcfjljeccnaa
/- The ghost machine: structs that came in, as cells. -/
set_option linter.unusedSimpArgs false
set_option linter.unusedVariables false
set_option maxRecDepth 100000
set_option maxHeartbeats 4000000
namespace Go.Proofs.Ytnmlcfjljeccnaa.A
open Go
theorem rdc_rec4 {α β γ δ : Type} {A : Rd α} {B : Rd β} {D : Rd γ} {E : Rd δ} {f : α → List C} {g : β → List C} {h : γ → List C} {k : δ → List C} (ha : RdC A f) (hb : RdC B g) (hd : RdC D h) (he : RdC E k) :
    RdC (RRec4 A B D E) fun x => f x.1 ++ (g x.2.1 ++ (h x.2.2.1 ++ k x.2.2.2)) := by
  rintro w cs x ⟨c0, c1, c2, c3, rfl, h1, h2, h3, h4⟩
  exact rdc_pair (s1 := 1) (s2 := 3) ha (rdc_pair (s1 := 1) (s2 := 2) hb (rdc_pair (s1 := 1) (s2 := 1) hd he)) w _ x ⟨[c0], [c1, c2, c3], rfl, rfl, rfl, h1, ⟨[c1], [c2, c3], rfl, rfl, rfl, h2, ⟨[c2], [c3], rfl, rfl, rfl, h3, h4⟩⟩⟩
end Go.Proofs.Ytnmlcfjljeccnaa.A
/- The ghost machine: what a function's last region leaves is made unchangeable before it is handed back. -/
set_option linter.unusedSimpArgs false
set_option linter.unusedVariables false
set_option maxRecDepth 100000
set_option maxHeartbeats 4000000
namespace Go.Proofs.Ytnmlcfjljeccnaa.A
open Go Go.RowKit
variable {P : Program} {T : TT} {st : St} {Q : Exit → St → Prop}
theorem aw_last {fn : Func} {ret : RV} {upd : List Root} {N : Nat} {j : J} (hj : j = std P T) (ks : List (Nat × KS)) (bs : List Nat) {id : Nat} {ops : Array Oper} {b : Bool}
    (h : Aw P T (.region id ops b) (Th (fun st' => ∃ st1, canon T j ks bs st' = some st1 ∧ (((Exit.normal : Exit) = .normal ∨ (Exit.normal : Exit) = .ret) ∧ RetOk P T fn st1 ret upd N) ∧ True) (fun e st => (e = .normal ∨ e = .ret) ∧ RetOk P T fn st ret upd N)) st) :
    Aw P T (.region id ops b) (fun e st => (e = .normal ∨ e = .ret) ∧ RetOk P T fn st ret upd N) st := by
  intro w0 S0 F a w hr
  refine wp_mono (h w0 S0 F a w hr) fun e a' w' ⟨st', q, r⟩ => ?_
  cases e <;> first | exact ⟨st', q, r⟩ | (
    obtain ⟨st1, hc, hq, _⟩ := q
    rw [hj] at hc
    exact ⟨st1, hq, canon_le hc _ _ _ _ _ r⟩)
theorem aw_retf {j : J} (hj : j = std P T) (ks : List (Nat × KS)) (bs : List Nat) {st1 : St} (h : canon T j ks bs st = some st1) (k : Q .ret st1) : Aw P T .ret Q st := forgetj hj ks bs h (aw_ret k)
end Go.Proofs.Ytnmlcfjljeccnaa.A
/- The ghost machine: regions that draw, walked in every order that may come up; what stands in memory that nobody changes is read ahead. -/
set_option linter.unusedSimpArgs false
set_option linter.unusedVariables false
set_option maxRecDepth 100000
set_option maxHeartbeats 4000000
namespace Go.Proofs.Ytnmlcfjljeccnaa.A
open Go Go.RowKit
variable {P : Program} {T : TT} {w w' w0 : World} {S S0 : Nat → Prop} {F : Fr} {bx : Nat → Nat} {ph : Nat → Nat → Pv} {a : Act} {st st' : St} {Q : Exit → St → Prop}
/-! ### loads from memory that nobody changes -/
def keepM : V → V
  | .one (.c c) => .one (.c c)
  | .one (.mem cs o) => .one (.mem cs o)
  | _ => .undef
def shadow (st : St) : St := { s := st.s.map keepM, r := st.r.map fun _ => .none }
def memT (T : TT) (j : J) (st : St) (o : Oper) : Option (V × List Prop) :=
  match o.op with
  | .load _ _ => pureOp T j (shadow st) none o
  | _ => none
def earlyT (T : TT) (j : J) (st : St) (o : Oper) : Option (V × List Prop) :=
  match pureT T j st o false with
  | some r => some r
  | none => memT T j st o
theorem shadow_none (st : St) (t : Nat) : (shadow st).r.getD t .none = .none := by
  unfold shadow
  simp only [List.getD_eq_getElem?_getD, List.getElem?_map]
  cases st.r[t]? <;> rfl
theorem shadow_rel (h : Rel T w0 S0 F st a w S bx ph) : Rel T w0 S0 F (shadow st) a w S bx ph := by
  have hno : ∀ t κ b, ¬ owns (shadow st).r bx ph t κ b := fun t κ b hb => (owns_none _ _ _ (shadow_none st t) _ _ hb).elim
  refine ⟨by simp [shadow, h.size], ⟨by simpa [shadow] using h.rsize.1, fun t ht => h.rsize.2 t (by simpa [shadow] using ht)⟩, h.defers, ⟨fun t => by rw [shadow_none]; trivial, fun t κ t' κ' b hb => absurd hb (hno _ _ _), fun t κ b hb => absurd hb (hno _ _ _), h.heap.low⟩, fun t κ b hb => absurd hb (hno _ _ _), fun i hi => ?_, h.keep, h.new, h.chg⟩
  have hi' : i < st.s.length := by simpa [shadow] using hi
  have hv := h.slot i hi'
  have e : (shadow st).s.getD i .undef = keepM (st.s.getD i .undef) := by
    simp only [shadow, List.getD_eq_getElem?_getD, List.getElem?_map, List.getElem?_eq_getElem hi', Option.map_some, Option.getD_some]
  rw [e]
  generalize st.s.getD i .undef = V at hv
  unfold keepM
  split
  · exact hv
  · exact hv
  · trivial
theorem xrep_shadow {v : Value} {x : X} {r : List Root} (h : XRep T w S (shadow st).r bx ph v x) : XRep T w S r bx ph v x := by
  have hn := shadow_none st
  cases x with
  | c c => exact h
  | mem cs o => exact h
  | undef => trivial
  | view t o => obtain ⟨e, n, cells, h1, _⟩ := h; rw [hn] at h1; simp [Root.row] at h1
  | mv t o => obtain ⟨e, n, h1, _⟩ := h; rw [hn] at h1; simp [Root.row] at h1
  | sub t o lo hi => obtain ⟨e, n, cells, _, _, _, h1, _⟩ := h; rw [hn] at h1; simp [Root.row] at h1
  | ptr t o => obtain ⟨row, h1, _⟩ := h; rw [hn] at h1; cases h1
  | eptr t o k => obtain ⟨e, n, cells, _, _, h1, _⟩ := h; rw [hn] at h1; simp [Root.row] at h1
  | tv t o p => obtain ⟨_, _, _, _, h1, _⟩ := h; rw [hn] at h1; simp [Root.row] at h1
  | tp t o p k off => obtain ⟨_, _, _, _, _, _, _, _, _, h1, _⟩ := h; rw [hn] at h1; simp [Root.row] at h1
  | bfn f t => obtain ⟨⟨row, h1, _⟩, _⟩ := h; rw [hn] at h1; cases h1
  | fn f caps =>
    obtain ⟨h1, h2⟩ := h
    refine ⟨h1, fun t ht => ?_⟩
    obtain ⟨row, h3, _⟩ := h2 t ht
    rw [hn] at h3; cases h3
theorem memT_sound (hT : TOk P T) (h : Rel T w0 S0 F st a w S bx ph) {o : Oper} {V1 : V} {obl : List Prop} (hp : memT T (std P T) st o = some (V1, obl)) (ho : ∀ p ∈ obl, p) :
    ∃ z, (∀ w1 : World, (∀ b, S b → w1.heap[b]? = w.heap[b]?) → (execOp a.eval o).run P w1 = .ok (.value z) w1) ∧ VRep T w S st.r bx ph z V1 := by
  unfold memT at hp
  split at hp
  · obtain ⟨z, r1, r2⟩ := pureOp_sound hT (shadow_rel h) hp ho
    refine ⟨z, fun w1 hS => r1 w1 (.inr ⟨hS, fun t κ b hb => (owns_none _ _ _ (shadow_none st t) _ _ hb).elim⟩), VRep.mono (fun v x hx => xrep_shadow hx) r2⟩
  · cases hp
theorem earlyT_sound (hT : TOk P T) (h : Rel T w0 S0 F st a w S bx ph) {o : Oper} {V1 : V} {obl : List Prop} (hp : earlyT T (std P T) st o = some (V1, obl)) (ho : ∀ p ∈ obl, p) :
    ∃ z, (∀ w1 : World, (∀ b, S b → w1.heap[b]? = w.heap[b]?) → (execOp a.eval o).run P w1 = .ok (.value z) w1) ∧ VRep T w S st.r bx ph z V1 := by
  unfold earlyT at hp
  split at hp
  · rename_i r hr
    cases hp
    obtain ⟨z, r1, r2⟩ := pureT_sound hT h hr ho
    exact ⟨z, fun w1 _ => r1 w1 (fun e => by cases e), r2⟩
  · exact memT_sound hT h hp ho
/-! ### every order -/
inductive CT where
  | done
  | take (i : Nat) (r : CT)
  | alt (i : Nat) (x y : CT)
  | last (i : Nat) (x : CT)
def CT.dp : CT → Nat
  | .done => 0
  | .take _ r => r.dp + 1
  | .alt _ x _ => x.dp + 1
  | .last _ x => x.dp + 1
def CT.opts : CT → List Nat
  | .alt i _ y => i :: y.opts
  | .last i _ => [i]
  | _ => []
def ctOk (ops : Array Oper) : Array Bool → List Nat → CT → Bool
  | listed, acc, .done => acc.isEmpty && (Region.ready .any ops listed).isEmpty
  | listed, acc, .take i r => acc.isEmpty && Region.free .any ops listed i && (Region.ready .any ops listed).contains i && ctOk ops (listed.setIfInBounds i true) [] r
  | listed, acc, .alt i x y => (y.dp == x.dp + 1) && !y.opts.isEmpty && ctOk ops (listed.setIfInBounds i true) [] x && ctOk ops listed (acc ++ [i]) y
  | listed, acc, .last i x => Region.ready .any ops listed == acc ++ [i] && ctOk ops (listed.setIfInBounds i true) [] x
def eOk (ops : Array Oper) : Array Bool → List Nat → Option (Array Bool)
  | listed, [] => some listed
  | listed, i :: is => if Region.free .any ops listed i && (Region.ready .any ops listed).contains i then eOk ops (listed.setIfInBounds i true) is else none
def certC (ops : Array Oper) (c0 : List Nat) (ct : CT) : Bool :=
  Region.noSelect ops && c0.length + ct.dp == ops.size && (match eOk ops (Array.replicate ops.size false) c0 with | some listed => ctOk ops listed [] ct | none => false)
def askN (kn : List Nat) (st : St) (x : Option Nat) (f : List Nat → St → Tr) : Tr :=
  match askT kn st x with
  | some (d, b) => .cut b (f (d :: kn) (setB st d true)) (f (d :: kn) (setB st d false))
  | none => f kn st
theorem askN_sound {R : St → Prop} {kn : List Nat} {x : Option Nat} {f : List Nat → St → Tr} (h : TrOk R (askN kn st x f)) : ∃ kn', TrOk R (f kn' st) := by
  unfold askN at h
  split at h
  · rename_i d b hask; exact tcut_sound (f := f) hask h
  · exact ⟨kn, h⟩
def stepN (ops : List Oper) (o : Oper) (G : List Nat → St → Tr) (k : List Nat → St → Tr) (kn : List Nat) (st : St) : Tr :=
  askN kn st (guardD ops o) fun kn st =>
    match wantT ops st o with
    | some true => askN kn st (pickD o) G
    | some false => k kn (put st o.dst .nop)
    | none => .bad
def gNow (T : TT) (j : J) (bk : Book) (ops : List Oper) (i : Nat) (o : Oper) (k : List Nat → St → Tr) (kn : List Nat) (st : St) : Tr :=
  match pureT T j st o true with
  | some (v, obl) => Tr.with obl (k (learn kn st o) (put st o.dst v))
  | none => match stepT T j bk ops st o i with
    | some (st1, obl) => Tr.with obl (k (learn kn st o) st1)
    | none => .bad
def gAny (T : TT) (j : J) (o : Oper) (k : List Nat → St → Tr) (kn : List Nat) (st : St) : Tr :=
  match pureT T j st o false with
  | some (v, obl) => Tr.with obl (k (learn kn st o) (put st o.dst v))
  | none => .bad
def runC (T : TT) (j : J) (bk : Book) (ops : List Oper) : CT → List Nat → St → Tr
  | .done, _, st => .done st
  | .take i r, kn, st => match ops[i]? with
    | some o => stepN ops o (gAny T j o fun kn st => runC T j bk ops r kn st) (fun kn st => runC T j bk ops r kn st) kn st
    | none => .bad
  | .alt i x y, kn, st => match ops[i]? with
    | some o => .alt 0 (stepN ops o (gNow T j bk ops i o fun kn st => runC T j bk ops x kn st) (fun kn st => runC T j bk ops x kn st) kn st) (runC T j bk ops y kn st)
    | none => .bad
  | .last i x, kn, st => match ops[i]? with
    | some o => stepN ops o (gNow T j bk ops i o fun kn st => runC T j bk ops x kn st) (fun kn st => runC T j bk ops x kn st) kn st
    | none => .bad
def runE (T : TT) (j : J) (ops : List Oper) : List Nat → St → Option (St × List Prop)
  | [], st => some (st, [])
  | i :: is, st =>
    match ops[i]? with
    | some o =>
      if o.guard.isSome then none else
      match earlyT T j st o with
      | some (v, obl) => (match runE T j ops is (put st o.dst v) with | some (st', obl') => some (st', obl ++ obl') | none => none)
      | none => none
    | none => none
def runZ (T : TT) (j : J) (bk : Book) (ops : List Oper) (c0 : List Nat) (ct : CT) (st : St) : Tr :=
  match runE T j ops c0 st with
  | some (st1, obl) => Tr.with obl (runC T j bk ops ct [] st1)
  | none => .bad
theorem put_rels (h : Rel T w0 S0 F st a w S bx ph) (hsp : st.r.getD st.s.length .none = .none) (d : Option Nat) {z : Value} {v : V} (hv : VRep T w S st.r bx ph z v) : Rel T w0 S0 F (put st d v) (a.put d z) w S bx ph ∧ (put st d v).r.getD (put st d v).s.length .none = .none := by
  refine ⟨?_, ?_⟩
  · cases d with
    | none => exact h
    | some d => exact h.put d hv
  · cases d with
    | none => exact hsp
    | some d => show st.r.getD (st.s.set d v).length .none = .none; rw [List.length_set]; exact hsp
theorem stepNow_sound (hT : TOk P T) (h : Rels T w0 S0 F st a w) {bk : Book} {ops : Array Oper} {i : Nat} {o : Oper} (hoi : ops[i]? = some o) {R : St → Prop} {k : List Nat → St → Tr} {kn : List Nat} (hr : TrOk R (stepN ops.toList o (gNow T (std P T) bk ops.toList i o k) k kn st))
    {K : Act → World → Prop} {Q : Exit → Act → World → Prop} (hK : ∀ kn' st' a' w', Rels T w0 S0 F st' a' w' → TrOk R (k kn' st') → K a' w') : wpOp P ops Q i K a w := by
  obtain ⟨kn1, h1⟩ := askN_sound hr
  unfold wpOp
  rw [hoi]
  dsimp only
  split at h1
  · rename_i hw
    rw [if_pos (wantT_sound P h hw)]
    obtain ⟨kn2, h2⟩ := askN_sound h1
    refine .inl ?_
    unfold gNow at h2
    split at h2
    · rename_i v obl hp
      obtain ⟨h3, h4⟩ := tr_with h2
      obtain ⟨S, bx, ph, hr0, hsp⟩ := h
      obtain ⟨z, r1, r2⟩ := pureT_sound hT hr0 hp h3
      obtain ⟨q1, q2⟩ := put_rels hr0 hsp o.dst r2
      exact wp_value (r1 w fun _ => Keep.refl _ _ _ _ _) (hK _ _ _ _ ⟨S, bx, ph, q1, q2⟩ h4)
    · split at h2
      · rename_i st1 obl hst
        obtain ⟨h3, h4⟩ := tr_with h2
        exact stepT_sound2 hT h hst h3 fun z w' hz _ => hK _ _ _ _ hz h4
      · exact h2.elim
  · rename_i hw
    rw [if_neg (by rw [wantT_sound P h hw]; simp)]
    exact hK _ _ _ _ (nop_rels h _) h1
  · exact h1.elim
theorem ct_ready {ops : Array Oper} : ∀ (ct : CT) (listed : Array Bool) (acc : List Nat), ctOk ops listed acc ct = true → ct.opts ≠ [] → Region.ready .any ops listed = acc ++ ct.opts := by
  intro ct
  induction ct with
  | done => intro _ _ _ h; exact absurd rfl h
  | take i r _ => intro _ _ _ h; exact absurd rfl h
  | alt i x y _ ihy =>
    intro listed acc h _
    simp only [ctOk, Bool.and_eq_true, Bool.not_eq_true', List.isEmpty_eq_false_iff] at h
    have := ihy listed (acc ++ [i]) h.2 h.1.1.2
    rw [this]; simp [CT.opts]
  | last i x _ =>
    intro listed acc h _
    simp only [ctOk, Bool.and_eq_true, beq_iff_eq] at h
    exact h.1
theorem runC_sound (hT : TOk P T) {bk : Book} {ops : Array Oper} {R : St → Prop} (hns : Region.noSelect ops = true) {Q : Exit → Act → World → Prop} (hQ : ∀ c a w, ¬ Q (.panic c) a w)
    (hE : ∀ st' a' w', R st' → Rels T w0 S0 F st' a' w' → Q .normal a' w') {Sp : World → Prop} (hSp : ∀ st' a' w', Rels T w0 S0 F st' a' w' → Sp w') :
    ∀ (ct : CT) (listed : Array Bool) (acc : List Nat) (kn : List Nat) (st : St) (a : Act) (w : World), ctOk ops listed acc ct = true → Rels T w0 S0 F st a w → TrOk R (runC T (std P T) bk ops.toList ct kn st) →
      (acc = [] → wpAnyH P .any ops Q Sp ct.dp listed a w) ∧ ∀ i ∈ ct.opts, wpOp P ops Q i (fun a' w' => Sp w' ∧ wpAnyH P .any ops Q Sp (ct.dp - 1) (listed.setIfInBounds i true) a' w') a w := by
  intro ct
  induction ct with
  | done =>
    intro listed acc kn st a w hc hrel hr
    simp only [ctOk, Bool.and_eq_true, List.isEmpty_iff] at hc
    exact ⟨fun _ => wpAnyH_done hc.2 (hE st a w hr hrel) 0, fun i hi => absurd hi (by simp [CT.opts])⟩
  | take i r ih =>
    intro listed acc kn st a w hc hrel hr
    simp only [ctOk, Bool.and_eq_true] at hc
    refine ⟨fun _ => ?_, fun i hi => absurd hi (by simp [CT.opts])⟩
    unfold runC at hr
    split at hr
    · rename_i o hoi
      have hoi' : ops[i]? = some o := by rw [← hoi]; simp
      obtain ⟨kn1, h1⟩ := askN_sound hr
      have go : ∀ (v : Value) (st2 : St) (kn2 : List Nat), YieldsIf P ops Sp o v a → Rels T w0 S0 F st2 (a.put o.dst v) w → TrOk R (runC T (std P T) bk ops.toList r kn2 st2) → wpAnyH P .any ops Q Sp (r.dp + 1) listed a w := fun v st2 kn2 hy hrel2 hr2 =>
        wpAnyH_take hoi' hns hc.1.1.2 hc.1.2 (fun c a w h => absurd h (hQ c _ w)) hy (hSp _ _ _ hrel) ((ih _ [] kn2 st2 _ w hc.2 hrel2 hr2).1 rfl)
      split at h1
      · rename_i hw
        obtain ⟨kn2, h2⟩ := askN_sound h1
        unfold gAny at h2
        split at h2
        · rename_i v obl hp
          obtain ⟨h3, h4⟩ := tr_with h2
          have hwt := wantT_sound P hrel hw
          obtain ⟨S, bx, ph, hr0, hsp⟩ := hrel
          obtain ⟨z, r1, r2⟩ := pureT_sound hT hr0 hp h3
          obtain ⟨q1, q2⟩ := put_rels hr0 hsp o.dst r2
          exact wpAnyH_take hoi' hns hc.1.1.2 hc.1.2 (fun c a w h => absurd h (hQ c _ w)) (.inl ⟨hwt, fun w1 _ => r1 w1 (fun e => by cases e)⟩) (hSp _ _ _ ⟨S, bx, ph, hr0, hsp⟩) ((ih _ [] _ _ _ w hc.2 ⟨S, bx, ph, q1, q2⟩ h4).1 rfl)
        · exact h2.elim
      · rename_i hw
        exact go undef _ kn1 (.inr ⟨wantT_sound P hrel hw, rfl⟩) (nop_rels hrel _) h1
      · exact h1.elim
    · exact hr.elim
  | alt i x y ihx ihy =>
    intro listed acc kn st a w hc hrel hr
    have hc0 := hc
    simp only [ctOk, Bool.and_eq_true, beq_iff_eq, Bool.not_eq_true', List.isEmpty_eq_false_iff] at hc
    unfold runC at hr
    split at hr
    · rename_i o hoi
      have hoi' : ops[i]? = some o := by rw [← hoi]; simp
      obtain ⟨ha, hb⟩ := hr
      have hstep : wpOp P ops Q i (fun a' w' => Sp w' ∧ wpAnyH P .any ops Q Sp x.dp (listed.setIfInBounds i true) a' w') a w :=
        stepNow_sound hT hrel hoi' (ha rfl) fun kn' st' a' w' hrel' hr' => ⟨hSp _ _ _ hrel', (ihx _ [] kn' st' a' w' hc.1.2 hrel' hr').1 rfl⟩
      have hrest := (ihy listed (acc ++ [i]) kn st a w hc.2 hrel hb).2
      have hall : ∀ k ∈ (CT.alt i x y).opts, wpOp P ops Q k (fun a' w' => Sp w' ∧ wpAnyH P .any ops Q Sp ((CT.alt i x y).dp - 1) (listed.setIfInBounds k true) a' w') a w := fun k hk => by
        rcases List.mem_cons.1 hk with rfl | hk
        · exact hstep
        · have := hrest k hk
          rw [hc.1.1.1] at this
          exact this
      refine ⟨fun e => ?_, hall⟩
      have hrd := ct_ready _ _ _ hc0 (by simp [CT.opts])
      rw [e, List.nil_append] at hrd
      exact wpAnyH_all hrd (by simp [CT.opts]) hall
    · exact hr.elim
  | last i x ihx =>
    intro listed acc kn st a w hc hrel hr
    have hc0 := hc
    simp only [ctOk, Bool.and_eq_true, beq_iff_eq] at hc
    unfold runC at hr
    split at hr
    · rename_i o hoi
      have hoi' : ops[i]? = some o := by rw [← hoi]; simp
      have hall : ∀ k ∈ (CT.last i x).opts, wpOp P ops Q k (fun a' w' => Sp w' ∧ wpAnyH P .any ops Q Sp ((CT.last i x).dp - 1) (listed.setIfInBounds k true) a' w') a w := fun k hk => by
        obtain rfl : k = i := List.mem_singleton.1 hk
        exact stepNow_sound hT hrel hoi' hr fun kn' st' a' w' hrel' hr' => ⟨hSp _ _ _ hrel', (ihx _ [] kn' st' a' w' hc.2 hrel' hr').1 rfl⟩
      refine ⟨fun e => ?_, hall⟩
      have hrd := ct_ready _ _ _ hc0 (by simp [CT.opts])
      rw [e, List.nil_append] at hrd
      exact wpAnyH_all hrd (by simp [CT.opts]) hall
    · exact hr.elim
theorem runE_sound (hT : TOk P T) {ops : Array Oper} (hns : Region.noSelect ops = true) {Q : Exit → Act → World → Prop} (hQ : ∀ c a w, ¬ Q (.panic c) a w) {Sp : World → Prop} (hSpS : ∀ w1, Sp w1 → ∀ b, S b → w1.heap[b]? = w.heap[b]?) (hSp0 : Sp w) :
    ∀ (c0 : List Nat) (listed listed' : Array Bool) (n : Nat) (st st' : St) (a : Act) (obl : List Prop), eOk ops listed c0 = some listed' → Rel T w0 S0 F st a w S bx ph → st.r.getD st.s.length .none = .none → runE T (std P T) ops.toList c0 st = some (st', obl) → (∀ p ∈ obl, p) →
      (∀ a', Rel T w0 S0 F st' a' w S bx ph → st'.r.getD st'.s.length .none = .none → wpAnyH P .any ops Q Sp n listed' a' w) → wpAnyH P .any ops Q Sp (c0.length + n) listed a w := by
  intro c0
  induction c0 with
  | nil =>
    intro listed listed' n st st' a obl he hrel hsp hr ho hK
    simp only [eOk, Option.some.injEq] at he
    simp only [runE, Option.some.injEq, Prod.mk.injEq] at hr
    obtain ⟨rfl, rfl⟩ := hr
    subst he
    rw [List.length_nil, Nat.zero_add]
    exact hK a hrel hsp
  | cons i is ih =>
    intro listed listed' n st st' a obl he hrel hsp hr ho hK
    unfold eOk at he
    split at he
    · rename_i hfr
      simp only [Bool.and_eq_true] at hfr
      unfold runE at hr
      split at hr
      · rename_i o hoi
        have hoi' : ops[i]? = some o := by rw [← hoi]; simp
        split at hr
        · cases hr
        · rename_i hg
          split at hr
          · rename_i v obl1 hp
            split at hr
            · rename_i st2 obl2 h2
              simp only [Option.some.injEq, Prod.mk.injEq] at hr
              obtain ⟨rfl, rfl⟩ := hr
              obtain ⟨z, r1, r2⟩ := earlyT_sound hT hrel hp fun p hp => ho p (List.mem_append_left _ hp)
              obtain ⟨q1, q2⟩ := put_rels hrel hsp o.dst r2
              have hw : Region.wanted o (yielded ops a.tmps) = true := by
                have : o.guard = none := by simpa using hg
                unfold Region.wanted; rw [this]
              have h3 := ih _ listed' n _ _ _ obl2 he q1 q2 h2 (fun p hp => ho p (List.mem_append_right _ hp)) hK
              rw [List.length_cons, Nat.add_right_comm]
              exact wpAnyH_take hoi' hns hfr.1 hfr.2 (fun c a w h => absurd h (hQ c _ w)) (.inl ⟨hw, fun w1 hs => r1 w1 (hSpS w1 hs)⟩) hSp0 h3
            · cases hr
          · cases hr
      · cases hr
    · cases he
theorem aw_at {y : Code} {id : Nat} {ops : Array Oper} {b : Bool} (h : Stop (Aw P T (.seq (.region id ops b) y) Q st)) : Aw P T (.seq (.region id ops b) y) Q st := h.get
theorem aw_at2 {y z : Code} {id : Nat} {ops : Array Oper} {b : Bool} (h : Stop (Aw P T (.seq (.seq (.region id ops b) z) y) Q st)) : Aw P T (.seq (.seq (.region id ops b) z) y) Q st := h.get
theorem aw_dc1 {j : J} (hj : j = std P T) (hT : TOk P T) (hm : P.follows .mixedOrders = true) (bk : Book) (c0 : List Nat) (ct : CT) {id : Nat} {ops : Array Oper} {t : Tr} (hc : certC ops c0 ct = true)
    (hr : runZ T j bk ops.toList c0 ct st = t) (h : TrOk (Q .normal) t) : Aw P T (.region id ops true) Q st := by
  rw [hj] at hr
  simp only [certC, Bool.and_eq_true, beq_iff_eq] at hc
  intro w0 S0 F a w hrel
  obtain ⟨S, bx, ph, h0, hsp⟩ := hrel
  obtain ⟨⟨hns, hlen⟩, hct⟩ := hc
  split at hct
  · rename_i listed he
    let w1 : World := { w with drawn := w.drawn + 1 }
    let F1 : Fr := ⟨fun b => ∃ t κ, owns st.r bx ph t κ b, F.pin⟩
    have hd := h0.world (w' := w.drew) (W := fun _ => False) (Chg.drew _ w) (fun _ _ hf => hf.elim)
    have hb : Rel T w1 S F1 st a w1 S bx ph := ⟨hd.size, hd.rsize, hd.defers, hd.heap, fun t κ b hb => .inr ⟨t, κ, hb⟩, hd.slot, fun _ hb => hb, fun _ hb => .inl hb, ⟨rfl, rfl, rfl, Nat.le_refl _, fun _ _ _ => rfl⟩⟩
    have back : ∀ st' a' w', Rels T w1 S F1 st' a' w' → Rels T w0 S0 F st' a' w' := fun st' a' w' ⟨S', bx', ph', g, gsp⟩ => by
      have hsz : w0.heap.size ≤ w1.heap.size := hd.chg.size
      refine ⟨S', bx', ph', ⟨g.size, g.rsize, g.defers, g.heap, fun t κ b hb => ?_, g.slot, fun b hb => g.keep b (hd.keep b hb), fun b hb => ?_, ?_⟩, gsp⟩
      · rcases g.mine t κ b hb with h1 | ⟨t', κ', h1⟩
        · exact .inl (Nat.le_trans hsz h1)
        · exact hd.mine _ _ _ h1
      · rcases g.new b hb with h1 | h1 | ⟨t', κ', h1⟩
        · exact hd.new b h1
        · exact .inr (.inl (Nat.le_trans hsz h1))
        · exact .inr (hd.mine _ _ _ h1)
      · have k := g.chg
        refine ⟨k.os.trans hd.chg.os, k.tape.trans hd.chg.tape, k.output.trans hd.chg.output, Nat.le_trans hsz k.size, fun i hi hs => (k.block i (Nat.lt_of_lt_of_le hi hsz) fun ⟨t', κ', h1⟩ => ?_).trans (hd.chg.block i hi hs)⟩
        rcases hd.mine _ _ _ h1 with h2 | h2
        · exact absurd hi (Nat.not_lt.2 h2)
        · exact hs h2
    have hSp : ∀ st' a' w', Rels T w1 S F1 st' a' w' → ∀ b, S b → w'.heap[b]? = w1.heap[b]? := fun st' a' w' ⟨S', bx', ph', g, _⟩ b hb =>
      g.chg.block b (hd.heap.low.1 b hb) fun ⟨t', κ', h1⟩ => (hd.heap.free t' κ' b h1).1 hb
    refine wp_mono (Q := fun e a' w' => e = .normal ∧ ∃ st', Q .normal st' ∧ Rels T w0 S0 F st' a' w') ?_ (fun e a' w' hh => by obtain ⟨rfl, hh⟩ := hh; exact hh)
    refine wp_region_held (S := fun w' => ∀ b, S b → w'.heap[b]? = w1.heap[b]?) hm ?_
    unfold runZ at hr
    split at hr
    · rename_i st1 obl hre
      rw [← hr] at h
      obtain ⟨h3, h4⟩ := tr_with h
      have key := runE_sound (w := w1) (Sp := fun w' => ∀ b, S b → w'.heap[b]? = w1.heap[b]?) (Q := fun e a' w' => e = .normal ∧ ∃ st', Q .normal st' ∧ Rels T w0 S0 F st' a' w') hT hns (fun c a w h => by cases h.1) (fun w1 hs => hs) (fun _ _ => rfl) c0 _ listed ct.dp st st1 a obl he hb hsp hre h3 fun a' ha' hsp' =>
        (runC_sound (Q := fun e a' w' => e = .normal ∧ ∃ st', Q .normal st' ∧ Rels T w0 S0 F st' a' w') (R := Q .normal) hT hns (fun c a w h => by cases h.1) (fun st' a' w' hR h' => ⟨rfl, st', hR, back _ _ _ h'⟩) (Sp := fun w' => ∀ b, S b → w'.heap[b]? = w1.heap[b]?) hSp ct listed [] [] st1 a' w1 hct ⟨S, bx, ph, ha', hsp'⟩ h4).1 rfl
      rw [hlen] at key
      exact key
    · rw [← hr] at h; exact h.elim
  · cases hct
theorem aw_dc {j : J} (hj : j = std P T) (hT : TOk P T) (hm : P.follows .mixedOrders = true) (bk : Book) (c0 : List Nat) (ct : CT) {id : Nat} {ops : Array Oper} {y : Code} {t : Tr} (hc : certC ops c0 ct = true)
    (hr : runZ T j bk ops.toList c0 ct st = t) (h : TrOk (Aw P T y Q) t) : Aw P T (.seq (.region id ops true) y) Q st := by
  refine aw_seq fun K hK => aw_dc1 hj hT hm bk c0 ct hc hr ?_
  have : ∀ t, TrOk (Aw P T y Q) t → TrOk (Th K Q .normal) t := by
    intro t
    induction t with
    | done st => exact fun h => hK st h
    | ob l t ih => exact fun h => ⟨h.1, ih h.2⟩
    | cut b x y ih1 ih2 => exact fun h => ⟨fun hb => ih1 (h.1 hb), fun hb => ih2 (h.2 hb)⟩
    | alt n x y ih1 ih2 => exact fun h => ⟨fun hb => ih1 (h.1 hb), ih2 h.2⟩
    | bad => exact fun h => h
  exact this t h
end Go.Proofs.Ytnmlcfjljeccnaa.A
/- The ghost machine: contracts of the kit for functions that give a plain value. -/
set_option linter.unusedSimpArgs false
set_option linter.unusedVariables false
set_option maxRecDepth 100000
set_option maxHeartbeats 4000000
namespace Go.Proofs.Ytnmlcfjljeccnaa.A
open Go Go.RowKit
variable {P : Program} {T : TT}
theorem pc_of_calls {f : FuncId} {args : List Arg} {v : Value} (hp : plain v = true) (h : ∀ (w : World) (S : Nat → Prop) (bx : Nat → Nat) (vs : List Value), LowG w S → vs.length = reals args → (∀ i (h : i < args.length) (h2 : i < vs.length), ArgRep w S bx (bx i) vs[i] args[i]) →
    Calls P f vs.toArray w fun e w' => e = .returned v ∧ Chg (fun _ => False) w w') : PC P T f args (ret1 (.st (.val v))) [] := by
  intro w S bx ph vs hheap hl ha
  refine (h w S bx vs hheap.low hl ha).mono ?_
  rintro e w' ⟨rfl, hc⟩
  have hS : ∀ b, S b → w'.heap[b]? = w.heap[b]? := fun b hb => hc.block b (hheap.low.1 b hb) id
  have hg : ∀ t, ([Root.loose [.st (.val v)]] : List Root).getD (t + 1) .none = .none := fun t => by simp
  have hno : ∀ t κ b, ¬ owns (Root.loose [.st (.val v)] :: []) (fun i => if i = 0 then 0 else bx (i - 1)) (fun t _ => if t = 0 then .of v else default) t κ b := fun t κ b hb => by
    cases t with
    | succ t => exact (owns_none _ _ _ (hg t) _ _ hb).elim
    | zero =>
      cases κ with
      | none => obtain ⟨row, h1, _⟩ := owns_box hb; cases h1
      | some o =>
        obtain ⟨rc, h1, h2⟩ := owns_cell hb
        cases o with
        | zero => cases h1; cases h2
        | succ o => cases h1
  refine ⟨v, S, fun i => if i = 0 then 0 else bx (i - 1), fun t _ => if t = 0 then .of v else default, rfl, ⟨?_, ?_, fun i => by simp, fun b h => h, fun b h => .inl h, fun t κ b hb => absurd hb (hno t κ b), ?_⟩⟩
  · refine ⟨fun t => ?_, fun t κ t' κ' b hb => absurd hb (hno t κ b), fun t κ b hb => absurd hb (hno t κ b), ⟨fun b hb => Nat.lt_of_lt_of_le (hheap.low.1 b hb) hc.size, hheap.low.2.frame hS fun _ h => h⟩⟩
    cases t with
    | succ t => show RootRep T w' S _ _ (([Root.loose [.st (.val v)]] : List Root).getD (t + 1) .none); rw [hg]; trivial
    | zero =>
      intro o ho
      have ho' : o < 1 := ho
      obtain rfl : o = 0 := by omega
      exact .val hp
  · show RetRep _ v (ret1 (.st (.val v)))
    unfold RetRep
    rw [if_neg (by simp [ret1])]
    exact ⟨by unfold PartVal; rw [if_neg (by simp)]; exact ⟨rfl, rfl⟩, trivial⟩
  · exact hc.mono fun _ _ h => h.elim
end Go.Proofs.Ytnmlcfjljeccnaa.A
/- A file of layer 8 as a box: its small functions. -/
set_option linter.unusedSimpArgs false
set_option linter.unusedVariables false
set_option maxRecDepth 100000
set_option maxHeartbeats 4000000
namespace Go.Proofs.Ytnmlcfjljeccnaa.A
open Go
abbrev uT : TypeId := 5
def bookI0 : Book := fun _ _ => none
abbrev iBox (n : Nat) (cs : List C) (s : Int) : Root := .box [.own uT n cs, .st (vI s)]
theorem pcn_NewI (n : Nat) (cs : List C) (hl : cs.length = n) (hn : n ≤ 140737488355328) : PCN Try.prog T 21 [.v false [.sl n cs]] [.own uT n cs, .st (vI n)] := by
  refine pcn_of tok Try.func21 rfl (by rfl) rfl ?_
  obtain ⟨j, hj⟩ : ∃ j : J, j = std Try.prog T := ⟨_, rfl⟩
  have hm : Try.prog.follows .mixedOrders = true := by kernel_rfl
  (repeat' first | ((refine aw_ret ⟨.inr rfl, ?_⟩)) | ((first | with_reducible refine tr_cut (fun h => ?_) (fun h => ?_) | refine aw_condj (by cbv) (fun h => ?_) (fun h => ?_)) <;> (try simp (disch := omega) only [hj, std, cmpI, cmpB, satB, Bool.not_eq_true, Bool.not_eq_false, decide_eq_true_eq, decide_eq_false_iff_not, beq_iff_eq, bne_iff_ne, bne_eq_false_iff_eq, beq_eq_false_iff_ne, ne_eq, reduceCtorEq, not_true_eq_false, not_false_eq_true, pl0, if_true, cmpS_eq, cmpS_neq, Bool.not_eq_eq_eq_not, Bool.not_true, Bool.not_false, Bool.not_eq_true', add64, sub64] at h) <;> (try (exfalso; omega))) | (with_reducible refine tr_alt (fun h => ?_) ?_ <;> (try (exfalso; omega))) | (with_reducible refine tr_ob ?_ ?_) | (with_reducible refine tr_done ?_) | (refine aw_tr hj tok bookI0 (by cbv) ?_) | (refine aw_seq fun K hK => ?_) | (refine aw_tr1 hj tok bookI0 (by cbv) ?_) | (refine aw_skip ?_) | (refine aw_block ?_) | (refine aw_exit ?_) | (refine aw_ret ⟨.inr rfl, ret_okj hj (by cbv) ?_ ?_⟩) | (refine aw_ret ?_) | (with_reducible refine th_n ?_) | (with_reducible refine th_r ?_) | (with_reducible refine th_x ?_) | (with_reducible refine blk_n ?_) | (with_reducible refine blk_r ?_) | (with_reducible refine blk_x ?_) | (with_reducible refine blk_y rfl ?_) | (refine ⟨.inr rfl, ret_okj hj (by cbv) ?_ ?_⟩) | (refine ⟨.inl rfl, ret_okj hj (by cbv) ?_ ?_⟩) | (with_reducible apply_assumption -symm -exfalso only [*]))
  all_goals (try (repeat' first | with_reducible exact obl0 | with_reducible refine obl1 ?_ ?_))
  all_goals (try first | with_reducible exact True.intro | ((first | refine ob_le hj ?_ | refine ob_lei hj ?_ | refine ob_inb hj ?_ | refine ob_pos hj ?_ | refine ob_ne0 hj ?_ | refine ob_eqb hj ?_); (first | rfl | first | omega | (simp only [hj, std]; split <;> omega) | (simp (disch := omega) only [hj, std, cmpI, cmpB, satB, add64, sub64, ite0, pl0, pl2, pl3, sb0, if_true, if_false, eq_self] <;> omega) | (simp (disch := omega) [hj, std, cmpI, cmpB, satB, add64, sub64, ite0, pl0, pl2, pl3, sb0, if_true, if_false, eq_self] <;> omega))))
  refine new_ok (s := 2) (t := 7) rfl rfl rfl (by simp) (.cons ?_ (.cons ?_ .nil))
  · simp only [hj, std, Nat.zero_add, ite_self, pl0]; exact .refl _
  · rw [hj]; exact .refl _
abbrev iMem (n : Nat) (cs : List C) (s : Int) : Arg := .v false [.mem [.sl n cs, vI s] 0]
theorem pc_LenI (n : Nat) (cs : List C) (s : Int) : PC Try.prog T 24 [iMem n cs s] (ret1 (.st (vI n))) [] := by
  refine pc_of tok Try.func24 rfl (by rfl) ?_
  obtain ⟨j, hj⟩ : ∃ j : J, j = std Try.prog T := ⟨_, rfl⟩
  have hm : Try.prog.follows .mixedOrders = true := by kernel_rfl
  (repeat' first | ((first | with_reducible refine tr_cut (fun h => ?_) (fun h => ?_) | refine aw_condj (by cbv) (fun h => ?_) (fun h => ?_)) <;> (try simp (disch := omega) only [hj, std, cmpI, cmpB, satB, Bool.not_eq_true, Bool.not_eq_false, decide_eq_true_eq, decide_eq_false_iff_not, beq_iff_eq, bne_iff_ne, bne_eq_false_iff_eq, beq_eq_false_iff_ne, ne_eq, reduceCtorEq, not_true_eq_false, not_false_eq_true, pl0, if_true, cmpS_eq, cmpS_neq, Bool.not_eq_eq_eq_not, Bool.not_true, Bool.not_false, Bool.not_eq_true', add64, sub64] at h) <;> (try (exfalso; omega))) | (with_reducible refine tr_alt (fun h => ?_) ?_ <;> (try (exfalso; omega))) | (with_reducible refine tr_ob ?_ ?_) | (with_reducible refine tr_done ?_) | (refine aw_tr hj tok bookI0 (by cbv) ?_) | (refine aw_seq fun K hK => ?_) | (refine aw_tr1 hj tok bookI0 (by cbv) ?_) | (refine aw_skip ?_) | (refine aw_block ?_) | (refine aw_exit ?_) | (refine aw_ret ⟨.inr rfl, ret_okj hj (by cbv) ?_ ?_⟩) | (refine aw_ret ?_) | (with_reducible refine th_n ?_) | (with_reducible refine th_r ?_) | (with_reducible refine th_x ?_) | (with_reducible refine blk_n ?_) | (with_reducible refine blk_r ?_) | (with_reducible refine blk_x ?_) | (with_reducible refine blk_y rfl ?_) | (refine ⟨.inr rfl, ret_okj hj (by cbv) ?_ ?_⟩) | (refine ⟨.inl rfl, ret_okj hj (by cbv) ?_ ?_⟩) | (with_reducible apply_assumption -symm -exfalso only [*]))
  all_goals (try (repeat' first | with_reducible exact obl0 | with_reducible refine obl1 ?_ ?_))
  all_goals (try first | with_reducible exact True.intro | ((first | refine ob_le hj ?_ | refine ob_lei hj ?_ | refine ob_inb hj ?_ | refine ob_pos hj ?_ | refine ob_ne0 hj ?_ | refine ob_eqb hj ?_); (first | rfl | first | omega | (simp only [hj, std]; split <;> omega) | (simp (disch := omega) only [hj, std, cmpI, cmpB, satB, add64, sub64, ite0, pl0, pl2, pl3, sb0, if_true, if_false, eq_self] <;> omega) | (simp (disch := omega) [hj, std, cmpI, cmpB, satB, add64, sub64, ite0, pl0, pl2, pl3, sb0, if_true, if_false, eq_self] <;> omega))) | ((refine ob_ok hj ?_; rw [hj]; exact .inr ⟨_, _, rfl⟩)) | ((rw [hj]; exact rfl)) | ((refine ob_le hj ?_; rw [hj]; exact Nat.le_refl _)))
theorem pc_SafeI (n : Nat) (cs : List C) (s : Int) : PC Try.prog T 25 [iMem n cs s] (ret1 (.st (vI s))) [] := by
  refine pc_of tok Try.func25 rfl (by rfl) ?_
  obtain ⟨j, hj⟩ : ∃ j : J, j = std Try.prog T := ⟨_, rfl⟩
  have hm : Try.prog.follows .mixedOrders = true := by kernel_rfl
  (repeat' first | ((first | with_reducible refine tr_cut (fun h => ?_) (fun h => ?_) | refine aw_condj (by cbv) (fun h => ?_) (fun h => ?_)) <;> (try simp (disch := omega) only [hj, std, cmpI, cmpB, satB, Bool.not_eq_true, Bool.not_eq_false, decide_eq_true_eq, decide_eq_false_iff_not, beq_iff_eq, bne_iff_ne, bne_eq_false_iff_eq, beq_eq_false_iff_ne, ne_eq, reduceCtorEq, not_true_eq_false, not_false_eq_true, pl0, if_true, cmpS_eq, cmpS_neq, Bool.not_eq_eq_eq_not, Bool.not_true, Bool.not_false, Bool.not_eq_true', add64, sub64] at h) <;> (try (exfalso; omega))) | (with_reducible refine tr_alt (fun h => ?_) ?_ <;> (try (exfalso; omega))) | (with_reducible refine tr_ob ?_ ?_) | (with_reducible refine tr_done ?_) | (refine aw_tr hj tok bookI0 (by cbv) ?_) | (refine aw_seq fun K hK => ?_) | (refine aw_tr1 hj tok bookI0 (by cbv) ?_) | (refine aw_skip ?_) | (refine aw_block ?_) | (refine aw_exit ?_) | (refine aw_ret ⟨.inr rfl, ret_okj hj (by cbv) ?_ ?_⟩) | (refine aw_ret ?_) | (with_reducible refine th_n ?_) | (with_reducible refine th_r ?_) | (with_reducible refine th_x ?_) | (with_reducible refine blk_n ?_) | (with_reducible refine blk_r ?_) | (with_reducible refine blk_x ?_) | (with_reducible refine blk_y rfl ?_) | (refine ⟨.inr rfl, ret_okj hj (by cbv) ?_ ?_⟩) | (refine ⟨.inl rfl, ret_okj hj (by cbv) ?_ ?_⟩) | (with_reducible apply_assumption -symm -exfalso only [*]))
  all_goals (try (repeat' first | with_reducible exact obl0 | with_reducible refine obl1 ?_ ?_))
  all_goals (try first | with_reducible exact True.intro | ((first | refine ob_le hj ?_ | refine ob_lei hj ?_ | refine ob_inb hj ?_ | refine ob_pos hj ?_ | refine ob_ne0 hj ?_ | refine ob_eqb hj ?_); (first | rfl | first | omega | (simp only [hj, std]; split <;> omega) | (simp (disch := omega) only [hj, std, cmpI, cmpB, satB, add64, sub64, ite0, pl0, pl2, pl3, sb0, if_true, if_false, eq_self] <;> omega) | (simp (disch := omega) [hj, std, cmpI, cmpB, satB, add64, sub64, ite0, pl0, pl2, pl3, sb0, if_true, if_false, eq_self] <;> omega))) | ((refine ob_ok hj ?_; rw [hj]; exact ⟨_, rfl⟩)) | ((rw [hj]; exact rfl)))
theorem pc_SyncI (n : Nat) (cs : List C) (s : Int) : PC Try.prog T 54 [.root (iBox n cs s)] ⟨true, []⟩ [iBox n cs n] := by
  refine pc_of tok Try.func54 rfl (by rfl) ?_
  obtain ⟨j, hj⟩ : ∃ j : J, j = std Try.prog T := ⟨_, rfl⟩
  have hm : Try.prog.follows .mixedOrders = true := by kernel_rfl
  (repeat' first | (refine ⟨.inr rfl, ret_oku hj (by cbv) (by cbv) rfl ?_ ?_ (upd_of ?_)⟩) | (refine ⟨.inl rfl, ret_oku hj (by cbv) (by cbv) rfl ?_ ?_ (upd_of ?_)⟩) | ((first | with_reducible refine tr_cut (fun h => ?_) (fun h => ?_) | refine aw_condj (by cbv) (fun h => ?_) (fun h => ?_)) <;> (try simp (disch := omega) only [hj, std, cmpI, cmpB, satB, Bool.not_eq_true, Bool.not_eq_false, decide_eq_true_eq, decide_eq_false_iff_not, beq_iff_eq, bne_iff_ne, bne_eq_false_iff_eq, beq_eq_false_iff_ne, ne_eq, reduceCtorEq, not_true_eq_false, not_false_eq_true, pl0, if_true, cmpS_eq, cmpS_neq, Bool.not_eq_eq_eq_not, Bool.not_true, Bool.not_false, Bool.not_eq_true', add64, sub64] at h) <;> (try (exfalso; omega))) | (with_reducible refine tr_alt (fun h => ?_) ?_ <;> (try (exfalso; omega))) | (with_reducible refine tr_ob ?_ ?_) | (with_reducible refine tr_done ?_) | (refine aw_tr hj tok bookI0 (by cbv) ?_) | (refine aw_seq fun K hK => ?_) | (refine aw_tr1 hj tok bookI0 (by cbv) ?_) | (refine aw_skip ?_) | (refine aw_block ?_) | (refine aw_exit ?_) | (refine aw_ret ⟨.inr rfl, ret_okj hj (by cbv) ?_ ?_⟩) | (refine aw_ret ?_) | (with_reducible refine th_n ?_) | (with_reducible refine th_r ?_) | (with_reducible refine th_x ?_) | (with_reducible refine blk_n ?_) | (with_reducible refine blk_r ?_) | (with_reducible refine blk_x ?_) | (with_reducible refine blk_y rfl ?_) | (refine ⟨.inr rfl, ret_okj hj (by cbv) ?_ ?_⟩) | (refine ⟨.inl rfl, ret_okj hj (by cbv) ?_ ?_⟩) | (with_reducible apply_assumption -symm -exfalso only [*]))
  all_goals (try (repeat' first | with_reducible exact obl0 | with_reducible refine obl1 ?_ ?_))
  all_goals (try first | with_reducible exact True.intro | ((first | refine ob_le hj ?_ | refine ob_lei hj ?_ | refine ob_inb hj ?_ | refine ob_pos hj ?_ | refine ob_ne0 hj ?_ | refine ob_eqb hj ?_); (first | rfl | first | omega | (simp only [hj, std]; split <;> omega) | (simp (disch := omega) only [hj, std, cmpI, cmpB, satB, add64, sub64, ite0, pl0, pl2, pl3, sb0, if_true, if_false, eq_self] <;> omega) | (simp (disch := omega) [hj, std, cmpI, cmpB, satB, add64, sub64, ite0, pl0, pl2, pl3, sb0, if_true, if_false, eq_self] <;> omega))) | (exact rfl) | ((refine upd_box ?_ (upd_nil _); rw [hj]; rfl)))
theorem set_whole (cs : List C) (n : Nat) (h : cs.length = n) (z : C) : setC (repC n [z]) 0 (extC cs 0 n) = cs := by
  have e : extC cs 0 n = cs := by simp [extC, List.take_of_length_le (Nat.le_of_eq h)]
  rw [e]; unfold setC
  rw [List.take_zero, List.nil_append, Nat.zero_add, List.drop_eq_nil_of_le (by simp [repC, List.length_flatten, h]), List.append_nil]
theorem pc_BytesI (n : Nat) (cs : List C) (s : Int) (hl : cs.length = n) (hn : n ≤ 140737488355328) : PC Try.prog T 23 [iMem n cs s] (ret1 (.own uT n cs)) [] := by
  have hw := set_whole cs n hl
  refine pc_of tok Try.func23 rfl (by rfl) ?_
  obtain ⟨j, hj⟩ : ∃ j : J, j = std Try.prog T := ⟨_, rfl⟩
  have hm : Try.prog.follows .mixedOrders = true := by kernel_rfl
  (repeat' first | ((first | with_reducible refine tr_cut (fun h => ?_) (fun h => ?_) | refine aw_condj (by cbv) (fun h => ?_) (fun h => ?_)) <;> (try simp (disch := omega) only [hj, std, cmpI, cmpB, satB, Bool.not_eq_true, Bool.not_eq_false, decide_eq_true_eq, decide_eq_false_iff_not, beq_iff_eq, bne_iff_ne, bne_eq_false_iff_eq, beq_eq_false_iff_ne, ne_eq, reduceCtorEq, not_true_eq_false, not_false_eq_true, pl0, if_true, cmpS_eq, cmpS_neq, Bool.not_eq_eq_eq_not, Bool.not_true, Bool.not_false, Bool.not_eq_true', add64, sub64] at h) <;> (try (exfalso; omega))) | (with_reducible refine tr_alt (fun h => ?_) ?_ <;> (try (exfalso; omega))) | (with_reducible refine tr_ob ?_ ?_) | (with_reducible refine tr_done ?_) | (refine aw_tr hj tok bookI0 (by cbv) ?_) | (refine aw_seq fun K hK => ?_) | (refine aw_tr1 hj tok bookI0 (by cbv) ?_) | (refine aw_skip ?_) | (refine aw_block ?_) | (refine aw_exit ?_) | (refine aw_ret ⟨.inr rfl, ret_okj hj (by cbv) ?_ ?_⟩) | (refine aw_ret ?_) | (with_reducible refine th_n ?_) | (with_reducible refine th_r ?_) | (with_reducible refine th_x ?_) | (with_reducible refine blk_n ?_) | (with_reducible refine blk_r ?_) | (with_reducible refine blk_x ?_) | (with_reducible refine blk_y rfl ?_) | (refine ⟨.inr rfl, ret_okj hj (by cbv) ?_ ?_⟩) | (refine ⟨.inl rfl, ret_okj hj (by cbv) ?_ ?_⟩) | (with_reducible apply_assumption -symm -exfalso only [*]))
  all_goals (try (repeat' first | with_reducible exact obl0 | with_reducible refine obl1 ?_ ?_))
  all_goals (try first | with_reducible exact True.intro | ((first | refine ob_le hj ?_ | refine ob_lei hj ?_ | refine ob_inb hj ?_ | refine ob_pos hj ?_ | refine ob_ne0 hj ?_ | refine ob_eqb hj ?_); (first | rfl | first | omega | (simp only [hj, std]; split <;> omega) | (simp (disch := omega) only [hj, std, cmpI, cmpB, satB, add64, sub64, ite0, pl0, pl2, pl3, sb0, if_true, if_false, eq_self] <;> omega) | (simp (disch := omega) [hj, std, cmpI, cmpB, satB, add64, sub64, ite0, pl0, pl2, pl3, sb0, if_true, if_false, eq_self] <;> omega))) | ((refine ob_ok hj ?_; rw [hj]; exact .inr ⟨_, _, rfl⟩)) | ((symm; refine ret1_c (own_eq ?_ ?_); (rw [hj]; rfl); (rw [hj]; simp only [std, Int.toNat_natCast, ite_self]; exact hw _))) | ((simp only [hj, std, cellAt, List.getD_cons_zero, gn, gc, Int.toNat_natCast]; omega)))
theorem pc_AppendI (n m : Nat) (cs es : List C) (s : Int) (hl : es.length = m) (hn : n + m ≤ 1048576) : PC Try.prog T 52 [.root (iBox n cs s), .v false [.sl m es]] (ret1 (.st (vB true))) [iBox (n + m) (cs ++ es) s, .none] := by
  refine pc_of tok Try.func52 rfl (by rfl) ?_
  obtain ⟨j, hj⟩ : ∃ j : J, j = std Try.prog T := ⟨_, rfl⟩
  have hm : Try.prog.follows .mixedOrders = true := by kernel_rfl
  (repeat' first | (refine ⟨.inr rfl, ret_oku hj (by cbv) (by cbv) rfl ?_ ?_ (upd_of ?_)⟩) | (refine ⟨.inl rfl, ret_oku hj (by cbv) (by cbv) rfl ?_ ?_ (upd_of ?_)⟩) | ((first | with_reducible refine tr_cut (fun h => ?_) (fun h => ?_) | refine aw_condj (by cbv) (fun h => ?_) (fun h => ?_)) <;> (try simp (disch := omega) only [hj, std, cmpI, cmpB, satB, Bool.not_eq_true, Bool.not_eq_false, decide_eq_true_eq, decide_eq_false_iff_not, beq_iff_eq, bne_iff_ne, bne_eq_false_iff_eq, beq_eq_false_iff_ne, ne_eq, reduceCtorEq, not_true_eq_false, not_false_eq_true, pl0, if_true, cmpS_eq, cmpS_neq, Bool.not_eq_eq_eq_not, Bool.not_true, Bool.not_false, Bool.not_eq_true', add64, sub64] at h) <;> (try (exfalso; omega))) | (with_reducible refine tr_alt (fun h => ?_) ?_ <;> (try (exfalso; omega))) | (with_reducible refine tr_ob ?_ ?_) | (with_reducible refine tr_done ?_) | (refine aw_tr hj tok bookI0 (by cbv) ?_) | (refine aw_seq fun K hK => ?_) | (refine aw_tr1 hj tok bookI0 (by cbv) ?_) | (refine aw_skip ?_) | (refine aw_block ?_) | (refine aw_exit ?_) | (refine aw_ret ⟨.inr rfl, ret_okj hj (by cbv) ?_ ?_⟩) | (refine aw_ret ?_) | (with_reducible refine th_n ?_) | (with_reducible refine th_r ?_) | (with_reducible refine th_x ?_) | (with_reducible refine blk_n ?_) | (with_reducible refine blk_r ?_) | (with_reducible refine blk_x ?_) | (with_reducible refine blk_y rfl ?_) | (refine ⟨.inr rfl, ret_okj hj (by cbv) ?_ ?_⟩) | (refine ⟨.inl rfl, ret_okj hj (by cbv) ?_ ?_⟩) | (with_reducible apply_assumption -symm -exfalso only [*]))
  all_goals (try (repeat' first | with_reducible exact obl0 | with_reducible refine obl1 ?_ ?_))
  all_goals (try first | with_reducible exact True.intro | ((first | refine ob_le hj ?_ | refine ob_lei hj ?_ | refine ob_inb hj ?_ | refine ob_pos hj ?_ | refine ob_ne0 hj ?_ | refine ob_eqb hj ?_); (first | rfl | first | omega | (simp only [hj, std]; split <;> omega) | (simp (disch := omega) only [hj, std, cmpI, cmpB, satB, add64, sub64, ite0, pl0, pl2, pl3, sb0, if_true, if_false, eq_self] <;> omega) | (simp (disch := omega) [hj, std, cmpI, cmpB, satB, add64, sub64, ite0, pl0, pl2, pl3, sb0, if_true, if_false, eq_self] <;> omega))) | (exact rfl) | ((refine upd_box ?_ (upd_none (upd_nil _)); simp only [hj, std, pl2]; rfl)))
theorem pc_sector (i : Int) (h0 : 0 ≤ i) (h1 : i ≤ 9223372036854775807) : PC Try.prog T 59 [.v false [vI i]] (ret1 (.st (vI (i / 16)))) [] := by
  have e : arithI .quo .i64 i 16 = i / 16 := by
    show IntKind.wrap .i64 (i.tdiv 16) = _
    rw [Int.tdiv_eq_ediv_of_nonneg h0, wrap64 (by omega) (by omega)]
  refine pc_of tok Try.func59 rfl (by rfl) ?_
  obtain ⟨j, hj⟩ : ∃ j : J, j = std Try.prog T := ⟨_, rfl⟩
  have hm : Try.prog.follows .mixedOrders = true := by kernel_rfl
  (repeat' first | ((first | with_reducible refine tr_cut (fun h => ?_) (fun h => ?_) | refine aw_condj (by cbv) (fun h => ?_) (fun h => ?_)) <;> (try simp (disch := omega) only [hj, std, cmpI, cmpB, satB, Bool.not_eq_true, Bool.not_eq_false, decide_eq_true_eq, decide_eq_false_iff_not, beq_iff_eq, bne_iff_ne, bne_eq_false_iff_eq, beq_eq_false_iff_ne, ne_eq, reduceCtorEq, not_true_eq_false, not_false_eq_true, pl0, if_true, cmpS_eq, cmpS_neq, Bool.not_eq_eq_eq_not, Bool.not_true, Bool.not_false, Bool.not_eq_true', add64, sub64] at h) <;> (try (exfalso; omega))) | (with_reducible refine tr_alt (fun h => ?_) ?_ <;> (try (exfalso; omega))) | (with_reducible refine tr_ob ?_ ?_) | (with_reducible refine tr_done ?_) | (refine aw_tr hj tok bookI0 (by cbv) ?_) | (refine aw_seq fun K hK => ?_) | (refine aw_tr1 hj tok bookI0 (by cbv) ?_) | (refine aw_skip ?_) | (refine aw_block ?_) | (refine aw_exit ?_) | (refine aw_ret ⟨.inr rfl, ret_okj hj (by cbv) ?_ ?_⟩) | (refine aw_ret ?_) | (with_reducible refine th_n ?_) | (with_reducible refine th_r ?_) | (with_reducible refine th_x ?_) | (with_reducible refine blk_n ?_) | (with_reducible refine blk_r ?_) | (with_reducible refine blk_x ?_) | (with_reducible refine blk_y rfl ?_) | (refine ⟨.inr rfl, ret_okj hj (by cbv) ?_ ?_⟩) | (refine ⟨.inl rfl, ret_okj hj (by cbv) ?_ ?_⟩) | (with_reducible apply_assumption -symm -exfalso only [*]))
  all_goals (try (repeat' first | with_reducible exact obl0 | with_reducible refine obl1 ?_ ?_))
  all_goals (try first | with_reducible exact True.intro | ((first | refine ob_le hj ?_ | refine ob_lei hj ?_ | refine ob_inb hj ?_ | refine ob_pos hj ?_ | refine ob_ne0 hj ?_ | refine ob_eqb hj ?_); (first | rfl | first | omega | (simp only [hj, std]; split <;> omega) | (simp (disch := omega) only [hj, std, cmpI, cmpB, satB, add64, sub64, ite0, pl0, pl2, pl3, sb0, if_true, if_false, eq_self] <;> omega) | (simp (disch := omega) [hj, std, cmpI, cmpB, satB, add64, sub64, ite0, pl0, pl2, pl3, sb0, if_true, if_false, eq_self] <;> omega))) | ((rw [hj]; rw [← e]; exact rfl)))
end Go.Proofs.Ytnmlcfjljeccnaa.A
/- A file of layer 8: sectors, a crash, a bit turned. -/
set_option linter.unusedSimpArgs false
set_option linter.unusedVariables false
set_option maxRecDepth 100000
set_option maxHeartbeats 4000000
namespace Go.Proofs.Ytnmlcfjljeccnaa.A
open Go
def zN (n : Nat) : Int := n
theorem zN_eq (n : Nat) : zN n = (n : Int) := rfl
def secN (n s : Int) : Int := if s = n then 0 else (n - 1) / 16 - s / 16 + 1
def div16 (i : Int) : Int := i / 16
theorem c_NewI (n : Nat) (cs : List C) (hl : cs.length = n) (hn : n ≤ 140737488355328) : (std Try.prog T).pcn 21 [.v false [.sl n cs]] [.own uT n cs, .st (vI (zN n))] := ⟨enters Try.func21 (by kernel_rfl) (by kernel_rfl), pcn_NewI n cs hl hn⟩
theorem c_LenI (n : Nat) (cs : List C) (s : Int) : pc 24 [iMem n cs s] (ret1 (.st (vI (zN n)))) := ⟨enters Try.func24 (by kernel_rfl) (by kernel_rfl), pc_LenI n cs s⟩
theorem c_SafeI (n : Nat) (cs : List C) (s : Int) : pc 25 [iMem n cs s] (ret1 (.st (vI s))) := ⟨enters Try.func25 (by kernel_rfl) (by kernel_rfl), pc_SafeI n cs s⟩
theorem c_SyncI (n : Nat) (cs : List C) (s : Int) : (std Try.prog T).pc 54 [.root (iBox n cs s)] ⟨true, []⟩ [iBox n cs (zN n)] := ⟨enters Try.func54 (by kernel_rfl) (by kernel_rfl), pc_SyncI n cs s⟩
theorem c_BytesI (n : Nat) (cs : List C) (s : Int) (hl : cs.length = n) (hn : n ≤ 140737488355328) : pc 23 [iMem n cs s] (ret1 (.own uT n cs)) := ⟨enters Try.func23 (by kernel_rfl) (by kernel_rfl), pc_BytesI n cs s hl hn⟩
theorem c_AppendI (n m : Nat) (cs es : List C) (s : Int) (hl : es.length = m) (hn : n + m ≤ 1048576) : (std Try.prog T).pc 52 [.root (iBox n cs s), .v false [.sl m es]] (ret1 (.st (vB true))) [iBox (n + m) (cs ++ es) s, .none] := ⟨enters Try.func52 (by kernel_rfl) (by kernel_rfl), pc_AppendI n m cs es s hl hn⟩
theorem c_sector (i : Int) (h0 : 0 ≤ i) (h1 : i ≤ 9223372036854775807) : pc 59 [.v false [vI i]] (ret1 (.st (vI (div16 i)))) := ⟨enters Try.func59 (by kernel_rfl) (by kernel_rfl), pc_sector i h0 h1⟩
def bookI1 (x_zN : Nat → Int) (x_secN : Int → Int → Int) (x_div16 : Int → Int) : Book := fun f xs => match f, xs with
  | 24, [.v false [.mem [.sl n cs, .val (.int _ s)] 0]] => some (ret1 (.st (vI (x_zN n))))
  | 25, [.v false [.mem [.sl n cs, .val (.int _ s)] 0]] => some (ret1 (.st (vI s)))
  | 54, [.root (.box [.own _ n cs, .st (.val (.int _ _))])] => some (⟨true, []⟩, [.box [.own uT n cs, .st (vI (x_zN n))]])
  | 26, [.v false [.mem [.sl n cs, .val (.int _ s)] 0]] => some (ret1 (.st (vI (x_secN (x_zN n) s))))
  | 59, [.v false [.val (.int _ i)]] => some (ret1 (.st (vI (x_div16 i))))
  | _, _ => none
theorem pc_SectorsI (n : Nat) (cs : List C) (s : Int) (h0 : 0 ≤ s) (h1 : s ≤ n) (h2 : n ≤ 140737488355328) : PC Try.prog T 26 [iMem n cs s] (ret1 (.st (vI (secN (zN n) s)))) [] := by
  have hz := zN_eq n
  have e1 : div16 (zN n - 1) = (zN n - 1) / 16 := rfl
  have e2 : div16 s = s / 16 := rfl
  have e3 : secN (zN n) s = if s = zN n then 0 else (zN n - 1) / 16 - s / 16 + 1 := rfl
  refine pc_of tok Try.func26 rfl (by rfl) ?_
  obtain ⟨j, hj⟩ : ∃ j : J, j = std Try.prog T := ⟨_, rfl⟩
  have hm : Try.prog.follows .mixedOrders = true := by kernel_rfl
  generalize y_zN : @zN = x_zN at *
  generalize y_secN : @secN = x_secN at *
  generalize y_div16 : @div16 = x_div16 at *
  (repeat' first | ((first | with_reducible refine tr_cut (fun h => ?_) (fun h => ?_) | refine aw_condj (by cbv) (fun h => ?_) (fun h => ?_)) <;> (try simp (disch := omega) only [hj, std, cmpI, cmpB, satB, Bool.not_eq_true, Bool.not_eq_false, decide_eq_true_eq, decide_eq_false_iff_not, beq_iff_eq, bne_iff_ne, bne_eq_false_iff_eq, beq_eq_false_iff_ne, ne_eq, reduceCtorEq, not_true_eq_false, not_false_eq_true, pl0, if_true, cmpS_eq, cmpS_neq, Bool.not_eq_eq_eq_not, Bool.not_true, Bool.not_false, Bool.not_eq_true', add64, sub64] at h) <;> (try (exfalso; omega))) | (with_reducible refine tr_alt (fun h => ?_) ?_ <;> (try (exfalso; omega))) | (with_reducible refine tr_ob ?_ ?_) | (with_reducible refine tr_done ?_) | (refine aw_dr1 (id := 3) hj tok hm (bookI1 x_zN x_secN x_div16) true [(0, false), (4, false), (5, false), (6, false), (7, false), (1, true), (2, true), (3, true), (8, true), (9, true), (10, true), (11, true)] (by kernel_rfl) (by cbv) ?_) | (refine aw_dr (id := 3) hj tok hm (bookI1 x_zN x_secN x_div16) true [(0, false), (4, false), (5, false), (6, false), (7, false), (1, true), (2, true), (3, true), (8, true), (9, true), (10, true), (11, true)] (by kernel_rfl) (by cbv) ?_) | (refine aw_tr hj tok (bookI1 x_zN x_secN x_div16) (by cbv) ?_) | (refine aw_seq fun K hK => ?_) | (refine aw_tr1 hj tok (bookI1 x_zN x_secN x_div16) (by cbv) ?_) | (refine aw_skip ?_) | (refine aw_block ?_) | (refine aw_exit ?_) | (refine aw_ret ⟨.inr rfl, ret_okj hj (by cbv) ?_ ?_⟩) | (refine aw_ret ?_) | (with_reducible refine th_n ?_) | (with_reducible refine th_r ?_) | (with_reducible refine th_x ?_) | (with_reducible refine blk_n ?_) | (with_reducible refine blk_r ?_) | (with_reducible refine blk_x ?_) | (with_reducible refine blk_y rfl ?_) | (refine ⟨.inr rfl, ret_okj hj (by cbv) ?_ ?_⟩) | (refine ⟨.inl rfl, ret_okj hj (by cbv) ?_ ?_⟩) | (with_reducible apply_assumption -symm -exfalso only [*]))
  all_goals ((try subst y_zN); (try subst y_secN); (try subst y_div16))
  all_goals (try (repeat' first | with_reducible exact obl0 | with_reducible refine obl1 ?_ ?_))
  all_goals (try first | with_reducible exact True.intro | (refine ob_pc hj ?_; (try rw [hj]); first | exact c_LenI _ _ _ | exact c_SafeI _ _ _) | (refine ob_pcn hj ?_; (try rw [hj]); first | exact c_LenI _ _ _ | exact c_SafeI _ _ _) | ((first | refine ob_le hj ?_ | refine ob_lei hj ?_ | refine ob_inb hj ?_ | refine ob_pos hj ?_ | refine ob_ne0 hj ?_ | refine ob_eqb hj ?_); (first | rfl | first | omega | (simp only [hj, std]; split <;> omega) | (simp (disch := omega) only [hj, std, cmpI, cmpB, satB, add64, sub64, ite0, pl0, pl2, pl3, sb0, if_true, if_false, eq_self] <;> omega) | (simp (disch := omega) [hj, std, cmpI, cmpB, satB, add64, sub64, ite0, pl0, pl2, pl3, sb0, if_true, if_false, eq_self] <;> omega))) | ((refine ob_ok hj ?_; rw [hj]; exact ⟨_, rfl⟩)) | ((refine ob_pc hj ?_; rw [hj]; exact c_sector s (by omega) (by omega))) | ((refine ob_pc hj ?_; rw [hj]; simp (disch := omega) only [std, sub64]; exact c_sector _ (by omega) (by omega))) | ((have hh : s = zN n := (by assumption); rw [e3, if_pos hh]; first | done | exact rfl)) | ((have hh : ¬ s = zN n := (by assumption); rw [e3, if_neg hh, hj]; show _ = (⟨false, [(false, [.st (vI (arithI .add .i64 (arithI .sub .i64 (div16 (arithI .sub .i64 (zN n) 1)) (div16 s)) 1))])]⟩ : RV); simp (disch := omega) only [sub64, add64, e1, e2]; first | done | exact rfl)))
theorem c_SectorsI (n : Nat) (cs : List C) (s : Int) (h0 : 0 ≤ s) (h1 : s ≤ n) (h2 : n ≤ 140737488355328) : pc 26 [iMem n cs s] (ret1 (.st (vI (secN (zN n) s)))) := ⟨enters Try.func26 (by kernel_rfl) (by kernel_rfl), pc_SectorsI n cs s h0 h1 h2⟩
/-! ### a crash -/
def there (s : Int) (ks : List C) (i : Int) : Int := if i / 16 - s / 16 < ks.length then gi (cellAt ks (i / 16 - s / 16).toNat) else 0
def crAt (s : Int) (cs ks : List C) (q : Nat) : C := if s ≤ q ∧ there s ks q ≤ (q : Int) % 16 then vU 0 else cellAt cs q
def crN (n : Nat) (s sz : Int) : Nat := (s + (if (if (n : Int) - s < sz then (n : Int) - s else sz) > 0 then (if (n : Int) - s < sz then (n : Int) - s else sz) else 0)).toNat
def crD (m : Nat) (s : Int) (cs ks : List C) (i : Int) : List C := (List.range m).map fun (q : Nat) => if (q : Int) < i then crAt s cs ks q else cellAt cs q
def crC (n : Nat) (s sz : Int) (cs ks : List C) : List C := (List.range (crN n s sz)).map (crAt s cs ks)
def crK (n k : Nat) (s sz : Int) : Int := if (k : Int) < secN (crN n s sz) s then k else secN (crN n s sz) s
theorem crN_le {n : Nat} {s sz : Int} (h0 : 0 ≤ s) (h1 : s ≤ n) : s ≤ crN n s sz ∧ crN n s sz ≤ n := by unfold crN; split <;> split at * <;> omega
theorem crD_len (m : Nat) (s : Int) (cs ks : List C) (i : Int) : (crD m s cs ks i).length = m := by simp [crD]
theorem crD_zero {m : Nat} {s : Int} {cs ks : List C} (hm : m ≤ cs.length) : crD m s cs ks s = extC cs 0 m := by
  refine List.ext_getElem (by simp [crD, extC]; omega) fun q h1 h2 => ?_
  have hq : q < m := by simpa [crD] using h1
  simp only [crD, List.getElem_map, List.getElem_range]
  have : (if (q : Int) < s then crAt s cs ks q else cellAt cs q) = cellAt cs q := by
    split
    · unfold crAt; rw [if_neg (by omega)]
    · rfl
  rw [this]
  simp [extC, cellAt, List.getD_eq_getElem?_getD, List.getElem?_eq_getElem (show q < cs.length by omega)]
theorem crD_end (n : Nat) (s sz : Int) (cs ks : List C) : crD (crN n s sz) s cs ks (crN n s sz) = crC n s sz cs ks := by
  unfold crD crC
  refine List.map_congr_left fun q hq => ?_
  rw [if_pos (by have := List.mem_range.1 hq; omega)]
theorem crD_set {m : Nat} {s : Int} {cs ks : List C} {i : Int} (h0 : 0 ≤ i) (hi : i < m) (c : C) (hc : crAt s cs ks i.toNat = c) : setC (crD m s cs ks i) i.toNat [c] = crD m s cs ks (i + 1) := by
  have hl := crD_len m s cs ks i
  have e : setC (crD m s cs ks i) i.toNat [c] = (crD m s cs ks i).set i.toNat c := by
    unfold setC
    rw [List.set_eq_take_append_cons_drop, if_pos (by omega)]
    simp
  rw [e]
  refine List.ext_getElem (by simp [crD]) fun q h1 h2 => ?_
  rw [List.getElem_set]
  simp only [crD, List.getElem_map, List.getElem_range]
  split
  · next e => subst e; rw [if_pos (by omega), hc]
  · next e => by_cases h : (q : Int) < i
              · rw [if_pos h, if_pos (by omega)]
              · rw [if_neg h, if_neg (by omega)]
theorem crD_keep {m : Nat} {s : Int} {cs ks : List C} {i : Int} (h0 : 0 ≤ i) (hc : crAt s cs ks i.toNat = cellAt cs i.toNat) : crD m s cs ks (i + 1) = crD m s cs ks i := by
  unfold crD
  refine List.map_congr_left fun q _ => ?_
  by_cases h : (q : Int) < i
  · rw [if_pos h, if_pos (by omega)]
  · rw [if_neg h]
    by_cases h2 : (q : Int) < i + 1
    · obtain rfl : q = i.toNat := by omega
      rw [if_pos h2, hc]
    · rw [if_neg h2]
theorem crAt_zero {s : Int} {cs ks : List C} {i : Int} (h0 : 0 ≤ i) (hs : s ≤ i) (h : there s ks i ≤ i % 16) : crAt s cs ks i.toNat = vU 0 := by
  unfold crAt; rw [if_pos]; rw [Int.toNat_of_nonneg h0]; exact ⟨hs, h⟩
theorem crAt_keep {s : Int} {cs ks : List C} {i : Int} (h0 : 0 ≤ i) (h : ¬ there s ks i ≤ i % 16) : crAt s cs ks i.toNat = cellAt cs i.toNat := by
  unfold crAt; rw [if_neg]; rw [Int.toNat_of_nonneg h0]; exact fun hh => h hh.2
theorem crC_len (n : Nat) (s sz : Int) (cs ks : List C) : (crC n s sz cs ks).length = crN n s sz := by simp [crC]
theorem cell_val {cs : List C} (hv : ∀ c ∈ cs, ∃ v, c = .val v) {q : Nat} (h : q < cs.length) : ∃ v, cellAt cs q = .val v := by
  unfold cellAt; rw [List.getD_eq_getElem?_getD, List.getElem?_eq_getElem h]; exact hv _ (List.getElem_mem h)
theorem crD_vals {m : Nat} {s : Int} {cs ks : List C} {i : Int} (hm : m ≤ cs.length) (hv : ∀ c ∈ cs, ∃ v, c = .val v) : ∀ c ∈ crD m s cs ks i, ∃ v, c = .val v := by
  intro c hc
  obtain ⟨q, hq, rfl⟩ := List.mem_map.1 hc
  have hq := List.mem_range.1 hq
  have := cell_val hv (show q < cs.length by omega)
  split
  · unfold crAt; split
    · exact ⟨_, rfl⟩
    · exact this
  · exact this
theorem rem16 {i : Int} (h0 : 0 ≤ i) : arithI .rem .i64 i 16 = i % 16 := by show i.tmod 16 = _; rw [Int.tmod_eq_emod_of_nonneg h0]
end Go.Proofs.Ytnmlcfjljeccnaa.A
/- A file of layer 8: a crash; a bit turned. -/
set_option linter.unusedSimpArgs false
set_option linter.unusedVariables false
set_option maxRecDepth 100000
set_option maxHeartbeats 4000000
namespace Go.Proofs.Ytnmlcfjljeccnaa.A
open Go
theorem crI_eq {n : Nat} {s sz : Int} (h0 : 0 ≤ s) (h1 : s ≤ n) (h2 : n ≤ 140737488355328) :
    arithI .add .i64 s (if (if arithI .sub .i64 (n : Int) s < sz then arithI .sub .i64 (n : Int) s else sz) > 0 then (if arithI .sub .i64 (n : Int) s < sz then arithI .sub .i64 (n : Int) s else sz) else 0) = (crN n s sz : Int) := by
  rw [sub64 (by omega) (by omega)]
  have hb : 0 ≤ (if (if (n : Int) - s < sz then (n : Int) - s else sz) > 0 then (if (n : Int) - s < sz then (n : Int) - s else sz) else 0) ∧ (if (if (n : Int) - s < sz then (n : Int) - s else sz) > 0 then (if (n : Int) - s < sz then (n : Int) - s else sz) else 0) ≤ (n : Int) - s := by
    split <;> split at * <;> omega
  rw [add64 (by omega) (by omega)]
  unfold crN
  omega
theorem pc_CrashI (n kn : Nat) (cs ks : List C) (s sz : Int) (h0 : 0 ≤ s) (h1 : s ≤ n) (h2 : n ≤ 140737488355328) (hl : cs.length = n) (hk : ks.length = kn) (hk2 : kn ≤ 140737488355328) (hv : ∀ c ∈ cs, ∃ v, c = .val v) (hks : ∀ q, q < kn → okK (.int .i64) (cellAt ks q)) :
    PC Try.prog T 53 [.root (iBox n cs s), .v false [vI sz], .v false [.sl kn ks]] (ret1 (.st (vI (crK n kn s sz)))) [iBox (crN n s sz) (crC n s sz cs ks) (zN (crN n s sz)), .none, .none] := by
  have hz := zN_eq n
  have hI := crI_eq (sz := sz) h0 h1 h2
  obtain ⟨m0, m1⟩ := crN_le (sz := sz) h0 h1
  have hend := crD_end n s sz cs ks
  have hcv : ∀ i : Int, ∀ c ∈ crD (crN n s sz) s cs ks i, ∃ v, c = .val v := fun i => crD_vals (by omega) hv
  have hcl : ∀ i : Int, (crD (crN n s sz) s cs ks i).length = crN n s sz := fun i => crD_len _ _ _ _ _
  have hst : crD (crN n s sz) s cs ks s = extC cs 0 (crN n s sz) := crD_zero (by omega)
  have eCK : crK n kn s sz = if (kn : Int) < secN (zN (crN n s sz)) s then (kn : Int) else secN (zN (crN n s sz)) s := rfl
  refine pc_of tok Try.func53 rfl (by rfl) ?_
  obtain ⟨j, hj⟩ : ∃ j : J, j = std Try.prog T := ⟨_, rfl⟩
  have hm : Try.prog.follows .mixedOrders = true := by kernel_rfl
  generalize y_zN : @zN = x_zN at *
  generalize y_secN : @secN = x_secN at *
  generalize y_div16 : @div16 = x_div16 at *
  generalize y_crN : @crN = x_crN at *
  generalize y_crC : @crC = x_crC at *
  generalize y_crK : @crK = x_crK at *
  (repeat' first | (refine ⟨.inr rfl, ret_oku hj (by cbv) (by cbv) rfl ?_ ?_ (upd_of ?_)⟩) | (refine ⟨.inl rfl, ret_oku hj (by cbv) (by cbv) rfl ?_ ?_ (upd_of ?_)⟩) | ((first | with_reducible refine tr_cut (fun h => ?_) (fun h => ?_) | refine aw_condj (by cbv) (fun h => ?_) (fun h => ?_)) <;> (try simp (disch := omega) only [hj, std, cmpI, cmpB, satB, Bool.not_eq_true, Bool.not_eq_false, decide_eq_true_eq, decide_eq_false_iff_not, beq_iff_eq, bne_iff_ne, bne_eq_false_iff_eq, beq_eq_false_iff_ne, ne_eq, reduceCtorEq, not_true_eq_false, not_false_eq_true, pl0, if_true, cmpS_eq, cmpS_neq, Bool.not_eq_eq_eq_not, Bool.not_true, Bool.not_false, Bool.not_eq_true', add64, sub64] at h) <;> (try (exfalso; omega))) | (with_reducible refine tr_alt (fun h => ?_) ?_ <;> (try (exfalso; omega))) | (with_reducible refine tr_ob ?_ ?_) | (with_reducible refine tr_done ?_) | (refine aw_dr1 (id := 7) hj tok hm (bookI1 x_zN x_secN x_div16) true [(0, false), (2, false), (3, false), (4, false), (5, false), (1, true), (6, true), (7, true), (8, true), (9, true)] (by kernel_rfl) (by cbv) ?_) | (refine aw_dr (id := 7) hj tok hm (bookI1 x_zN x_secN x_div16) true [(0, false), (2, false), (3, false), (4, false), (5, false), (1, true), (6, true), (7, true), (8, true), (9, true)] (by kernel_rfl) (by cbv) ?_) | (with_reducible refine dr_go (by cbv) ?_) | (refine aw_dw1 (id := 3) hj tok hm (bookI1 x_zN x_secN x_div16) [(0, false), (1, false), (2, false), (3, false), (4, false), (5, false), (6, false), (7, false), (8, false), (9, false), (10, false), (11, false), (12, false), (13, false), (14, false), (15, true), (16, true), (17, true), (18, true), (19, true), (20, true), (21, true), (22, true), (23, true), (24, true), (25, true)] [(26, true)] [0, 1, 2, 3, 4, 5, 6, 7, 8, 9, 10, 11, 12, 13, 14] (by kernel_rfl) (by cbv) ?_) | (refine aw_dw (id := 3) hj tok hm (bookI1 x_zN x_secN x_div16) [(0, false), (1, false), (2, false), (3, false), (4, false), (5, false), (6, false), (7, false), (8, false), (9, false), (10, false), (11, false), (12, false), (13, false), (14, false), (15, true), (16, true), (17, true), (18, true), (19, true), (20, true), (21, true), (22, true), (23, true), (24, true), (25, true)] [(26, true)] [0, 1, 2, 3, 4, 5, 6, 7, 8, 9, 10, 11, 12, 13, 14] (by kernel_rfl) (by cbv) ?_) | (refine aw_tr hj tok (bookI1 x_zN x_secN x_div16) (by cbv) ?_) | (refine aw_seq fun K hK => ?_) | (refine aw_tr1 hj tok (bookI1 x_zN x_secN x_div16) (by cbv) ?_) | (refine aw_skip ?_) | (refine aw_block ?_) | (refine aw_exit ?_) | (refine aw_ret ⟨.inr rfl, ret_okj hj (by cbv) ?_ ?_⟩) | (refine aw_ret ?_) | (with_reducible refine th_n ?_) | (with_reducible refine th_r ?_) | (with_reducible refine th_x ?_) | (with_reducible refine blk_n ?_) | (with_reducible refine blk_r ?_) | (with_reducible refine blk_x ?_) | (with_reducible refine blk_y rfl ?_) | (refine ⟨.inr rfl, ret_okj hj (by cbv) ?_ ?_⟩) | (refine ⟨.inl rfl, ret_okj hj (by cbv) ?_ ?_⟩) | ((with_reducible refine ⟨(_, _, _), by cbv, ?_, ?_⟩)) | ((with_reducible refine ⟨_, by cbv, ?_, ?_⟩)) | (with_reducible apply_assumption -symm -exfalso only [*]))
  all_goals ((try subst y_zN); (try subst y_secN); (try subst y_div16); (try subst y_crN); (try subst y_crC); (try subst y_crK))
  all_goals (try (repeat' first | with_reducible exact obl0 | with_reducible refine obl1 ?_ ?_))
  all_goals (try first | with_reducible exact True.intro | ((first | refine ob_le hj ?_ | refine ob_lei hj ?_ | refine ob_inb hj ?_ | refine ob_pos hj ?_ | refine ob_ne0 hj ?_ | refine ob_eqb hj ?_); (first | rfl | first | omega | (simp only [hj, std]; split <;> omega) | (simp (disch := omega) only [hj, std, cmpI, cmpB, satB, add64, sub64, ite0, pl0, pl2, pl3, sb0, if_true, if_false, eq_self] <;> omega) | (simp (disch := omega) [hj, std, cmpI, cmpB, satB, add64, sub64, ite0, pl0, pl2, pl3, sb0, if_true, if_false, eq_self] <;> omega))) | ((simp only [hj, std, hI]; omega)))
  refine aw_lpj hj [(0, .keep), (2, .keep), (7, .keep)] [] (fun (⟨i, N2, D⟩ : Int × Nat × (List C)) => stOfR 86 [(0, .one (.ptr 87 0)), (2, .one (.c (.sl kn ks))), (7, .one (.c (vI i)))] [] [.box [.own uT N2 D, .st (vI s)], .none, .none]) (fun (⟨i, N2, D⟩ : Int × Nat × (List C)) => crN n s sz - i.toNat) (fun (⟨i, N2, D⟩ : Int × Nat × (List C)) => s ≤ i ∧ i ≤ crN n s sz ∧ N2 = crN n s sz ∧ D = crD (crN n s sz) s cs ks i) ((_, _, _)) (by generalize @zN = x_zN; generalize @secN = x_secN; generalize @div16 = x_div16; generalize @crN = x_crN; generalize @crC = x_crC; generalize @crK = x_crK; cbv) ?_ (fun ⟨i, N2, D⟩ hI => ?_)
  · simp only [hj, std, hI, Int.toNat_natCast]
    exact ⟨by omega, by omega, by trivial, hst.symm⟩
  obtain ⟨i1, i2, hN, hD⟩ := hI
  have hcvi := hcv i
  have hcli := hcl i
  rw [← hD] at hcvi hcli
  rcases Decidable.em (i < (crN n s sz : Int)) with hi | hi
  · have d1 : div16 i = i / 16 := rfl
    have d2 : div16 s = s / 16 := rfl
    have r1 := rem16 (i := i) (by omega)
    have ht : there s ks i = if div16 i - div16 s < ks.length then gi (cellAt ks (div16 i - div16 s).toNat) else 0 := rfl
    have hok := hks (div16 i - div16 s).toNat
    have f1 : (i + 1).toNat = i.toNat + 1 := by omega
    have hset := fun h => crD_set (m := crN n s sz) (s := s) (cs := cs) (ks := ks) (by omega : 0 ≤ i) (by omega) (vU 0) (crAt_zero (by omega) i1 h)
    have hkeep := fun h => crD_keep (m := crN n s sz) (s := s) (cs := cs) (ks := ks) (by omega : 0 ≤ i) (crAt_keep (by omega) h)
    rw [← hD] at hset hkeep
    generalize there s ks i = y at *
    rw [hk] at ht
    rcases Decidable.em (div16 i - div16 s < (kn : Int)) with hkk | hkk
    · rw [if_pos hkk] at ht
      have hok := hok (by omega)
      rcases Decidable.em (y ≤ i % 16) with hy | hy
      · have hset := hset hy
        generalize y_zN : @zN = x_zN at *
        generalize y_secN : @secN = x_secN at *
        generalize y_div16 : @div16 = x_div16 at *
        generalize y_crN : @crN = x_crN at *
        generalize y_crC : @crC = x_crC at *
        generalize y_crK : @crK = x_crK at *
        (repeat' first | (refine ⟨.inr rfl, ret_oku hj (by cbv) (by cbv) rfl ?_ ?_ (upd_of ?_)⟩) | (refine ⟨.inl rfl, ret_oku hj (by cbv) (by cbv) rfl ?_ ?_ (upd_of ?_)⟩) | ((first | with_reducible refine tr_cut (fun h => ?_) (fun h => ?_) | refine aw_condj (by cbv) (fun h => ?_) (fun h => ?_)) <;> (try simp (disch := omega) only [hj, std, cmpI, cmpB, satB, Bool.not_eq_true, Bool.not_eq_false, decide_eq_true_eq, decide_eq_false_iff_not, beq_iff_eq, bne_iff_ne, bne_eq_false_iff_eq, beq_eq_false_iff_ne, ne_eq, reduceCtorEq, not_true_eq_false, not_false_eq_true, pl0, if_true, cmpS_eq, cmpS_neq, Bool.not_eq_eq_eq_not, Bool.not_true, Bool.not_false, Bool.not_eq_true', r1, ← ht, add64, sub64] at h) <;> (try (exfalso; omega))) | (with_reducible refine tr_alt (fun h => ?_) ?_ <;> (try (exfalso; omega))) | (with_reducible refine tr_ob ?_ ?_) | (with_reducible refine tr_done ?_) | (refine aw_dr1 (id := 7) hj tok hm (bookI1 x_zN x_secN x_div16) true [(0, false), (2, false), (3, false), (4, false), (5, false), (1, true), (6, true), (7, true), (8, true), (9, true)] (by kernel_rfl) (by cbv) ?_) | (refine aw_dr (id := 7) hj tok hm (bookI1 x_zN x_secN x_div16) true [(0, false), (2, false), (3, false), (4, false), (5, false), (1, true), (6, true), (7, true), (8, true), (9, true)] (by kernel_rfl) (by cbv) ?_) | (with_reducible refine dr_go (by cbv) ?_) | (refine aw_dw1 (id := 3) hj tok hm (bookI1 x_zN x_secN x_div16) [(0, false), (1, false), (2, false), (3, false), (4, false), (5, false), (6, false), (7, false), (8, false), (9, false), (10, false), (11, false), (12, false), (13, false), (14, false), (15, true), (16, true), (17, true), (18, true), (19, true), (20, true), (21, true), (22, true), (23, true), (24, true), (25, true)] [(26, true)] [0, 1, 2, 3, 4, 5, 6, 7, 8, 9, 10, 11, 12, 13, 14] (by kernel_rfl) (by cbv) ?_) | (refine aw_dw (id := 3) hj tok hm (bookI1 x_zN x_secN x_div16) [(0, false), (1, false), (2, false), (3, false), (4, false), (5, false), (6, false), (7, false), (8, false), (9, false), (10, false), (11, false), (12, false), (13, false), (14, false), (15, true), (16, true), (17, true), (18, true), (19, true), (20, true), (21, true), (22, true), (23, true), (24, true), (25, true)] [(26, true)] [0, 1, 2, 3, 4, 5, 6, 7, 8, 9, 10, 11, 12, 13, 14] (by kernel_rfl) (by cbv) ?_) | (refine aw_tr hj tok (bookI1 x_zN x_secN x_div16) (by cbv) ?_) | (refine aw_seq fun K hK => ?_) | (refine aw_tr1 hj tok (bookI1 x_zN x_secN x_div16) (by cbv) ?_) | (refine aw_skip ?_) | (refine aw_block ?_) | (refine aw_exit ?_) | (refine aw_ret ⟨.inr rfl, ret_okj hj (by cbv) ?_ ?_⟩) | (refine aw_ret ?_) | (with_reducible refine th_n ?_) | (with_reducible refine th_r ?_) | (with_reducible refine th_x ?_) | (with_reducible refine blk_n ?_) | (with_reducible refine blk_r ?_) | (with_reducible refine blk_x ?_) | (with_reducible refine blk_y rfl ?_) | (refine ⟨.inr rfl, ret_okj hj (by cbv) ?_ ?_⟩) | (refine ⟨.inl rfl, ret_okj hj (by cbv) ?_ ?_⟩) | ((with_reducible refine ⟨(_, _, _), by cbv, ?_, ?_⟩)) | ((with_reducible refine ⟨_, by cbv, ?_, ?_⟩)) | (with_reducible apply_assumption -symm -exfalso only [*]))
        all_goals ((try subst y_zN); (try subst y_secN); (try subst y_div16); (try subst y_crN); (try subst y_crC); (try subst y_crK))
        all_goals (try (repeat' first | with_reducible exact obl0 | with_reducible refine obl1 ?_ ?_))
        all_goals (try first | with_reducible exact True.intro | ((first | refine ob_le hj ?_ | refine ob_lei hj ?_ | refine ob_inb hj ?_ | refine ob_pos hj ?_ | refine ob_ne0 hj ?_ | refine ob_eqb hj ?_); (first | rfl | first | omega | (simp only [hj, std]; split <;> omega) | (simp (disch := omega) only [hj, std, cmpI, cmpB, satB, add64, sub64, ite0, pl0, pl2, pl3, sb0, if_true, if_false, eq_self] <;> omega) | (simp (disch := omega) [hj, std, cmpI, cmpB, satB, add64, sub64, ite0, pl0, pl2, pl3, sb0, if_true, if_false, eq_self] <;> omega))) | ((refine ob_pc hj ?_; (try rw [hj]); exact c_sector _ (by omega) (by omega))) | ((refine ob_ok hj ?_; simp (disch := omega) only [hj, std, sub64]; exact hok)) | ((simp (disch := omega) only [hj, std, add64, sub64, f1]; first | omega | exact ⟨by omega, by omega, hN, hset.symm⟩ | exact ⟨by omega, by omega, hN, hset⟩)))
      · have hkeep := hkeep hy
        generalize y_zN : @zN = x_zN at *
        generalize y_secN : @secN = x_secN at *
        generalize y_div16 : @div16 = x_div16 at *
        generalize y_crN : @crN = x_crN at *
        generalize y_crC : @crC = x_crC at *
        generalize y_crK : @crK = x_crK at *
        (repeat' first | (refine ⟨.inr rfl, ret_oku hj (by cbv) (by cbv) rfl ?_ ?_ (upd_of ?_)⟩) | (refine ⟨.inl rfl, ret_oku hj (by cbv) (by cbv) rfl ?_ ?_ (upd_of ?_)⟩) | ((first | with_reducible refine tr_cut (fun h => ?_) (fun h => ?_) | refine aw_condj (by cbv) (fun h => ?_) (fun h => ?_)) <;> (try simp (disch := omega) only [hj, std, cmpI, cmpB, satB, Bool.not_eq_true, Bool.not_eq_false, decide_eq_true_eq, decide_eq_false_iff_not, beq_iff_eq, bne_iff_ne, bne_eq_false_iff_eq, beq_eq_false_iff_ne, ne_eq, reduceCtorEq, not_true_eq_false, not_false_eq_true, pl0, if_true, cmpS_eq, cmpS_neq, Bool.not_eq_eq_eq_not, Bool.not_true, Bool.not_false, Bool.not_eq_true', r1, ← ht, add64, sub64] at h) <;> (try (exfalso; omega))) | (with_reducible refine tr_alt (fun h => ?_) ?_ <;> (try (exfalso; omega))) | (with_reducible refine tr_ob ?_ ?_) | (with_reducible refine tr_done ?_) | (refine aw_dr1 (id := 7) hj tok hm (bookI1 x_zN x_secN x_div16) true [(0, false), (2, false), (3, false), (4, false), (5, false), (1, true), (6, true), (7, true), (8, true), (9, true)] (by kernel_rfl) (by cbv) ?_) | (refine aw_dr (id := 7) hj tok hm (bookI1 x_zN x_secN x_div16) true [(0, false), (2, false), (3, false), (4, false), (5, false), (1, true), (6, true), (7, true), (8, true), (9, true)] (by kernel_rfl) (by cbv) ?_) | (with_reducible refine dr_go (by cbv) ?_) | (refine aw_dw1 (id := 3) hj tok hm (bookI1 x_zN x_secN x_div16) [(0, false), (1, false), (2, false), (3, false), (4, false), (5, false), (6, false), (7, false), (8, false), (9, false), (10, false), (11, false), (12, false), (13, false), (14, false), (15, true), (16, true), (17, true), (18, true), (19, true), (20, true), (21, true), (22, true), (23, true), (24, true), (25, true)] [(26, true)] [0, 1, 2, 3, 4, 5, 6, 7, 8, 9, 10, 11, 12, 13, 14] (by kernel_rfl) (by cbv) ?_) | (refine aw_dw (id := 3) hj tok hm (bookI1 x_zN x_secN x_div16) [(0, false), (1, false), (2, false), (3, false), (4, false), (5, false), (6, false), (7, false), (8, false), (9, false), (10, false), (11, false), (12, false), (13, false), (14, false), (15, true), (16, true), (17, true), (18, true), (19, true), (20, true), (21, true), (22, true), (23, true), (24, true), (25, true)] [(26, true)] [0, 1, 2, 3, 4, 5, 6, 7, 8, 9, 10, 11, 12, 13, 14] (by kernel_rfl) (by cbv) ?_) | (refine aw_tr hj tok (bookI1 x_zN x_secN x_div16) (by cbv) ?_) | (refine aw_seq fun K hK => ?_) | (refine aw_tr1 hj tok (bookI1 x_zN x_secN x_div16) (by cbv) ?_) | (refine aw_skip ?_) | (refine aw_block ?_) | (refine aw_exit ?_) | (refine aw_ret ⟨.inr rfl, ret_okj hj (by cbv) ?_ ?_⟩) | (refine aw_ret ?_) | (with_reducible refine th_n ?_) | (with_reducible refine th_r ?_) | (with_reducible refine th_x ?_) | (with_reducible refine blk_n ?_) | (with_reducible refine blk_r ?_) | (with_reducible refine blk_x ?_) | (with_reducible refine blk_y rfl ?_) | (refine ⟨.inr rfl, ret_okj hj (by cbv) ?_ ?_⟩) | (refine ⟨.inl rfl, ret_okj hj (by cbv) ?_ ?_⟩) | ((with_reducible refine ⟨(_, _, _), by cbv, ?_, ?_⟩)) | ((with_reducible refine ⟨_, by cbv, ?_, ?_⟩)) | (with_reducible apply_assumption -symm -exfalso only [*]))
        all_goals ((try subst y_zN); (try subst y_secN); (try subst y_div16); (try subst y_crN); (try subst y_crC); (try subst y_crK))
        all_goals (try (repeat' first | with_reducible exact obl0 | with_reducible refine obl1 ?_ ?_))
        all_goals (try first | with_reducible exact True.intro | ((first | refine ob_le hj ?_ | refine ob_lei hj ?_ | refine ob_inb hj ?_ | refine ob_pos hj ?_ | refine ob_ne0 hj ?_ | refine ob_eqb hj ?_); (first | rfl | first | omega | (simp only [hj, std]; split <;> omega) | (simp (disch := omega) only [hj, std, cmpI, cmpB, satB, add64, sub64, ite0, pl0, pl2, pl3, sb0, if_true, if_false, eq_self] <;> omega) | (simp (disch := omega) [hj, std, cmpI, cmpB, satB, add64, sub64, ite0, pl0, pl2, pl3, sb0, if_true, if_false, eq_self] <;> omega))) | ((refine ob_pc hj ?_; (try rw [hj]); exact c_sector _ (by omega) (by omega))) | ((refine ob_ok hj ?_; simp (disch := omega) only [hj, std, sub64]; exact hok)) | ((simp (disch := omega) only [hj, std, add64, sub64, f1]; first | omega | exact ⟨by omega, by omega, hN, hkeep.symm⟩)))
    · rw [if_neg hkk] at ht
      rcases Decidable.em (y ≤ i % 16) with hy | hy
      · have hset := hset hy
        generalize y_zN : @zN = x_zN at *
        generalize y_secN : @secN = x_secN at *
        generalize y_div16 : @div16 = x_div16 at *
        generalize y_crN : @crN = x_crN at *
        generalize y_crC : @crC = x_crC at *
        generalize y_crK : @crK = x_crK at *
        (repeat' first | (refine ⟨.inr rfl, ret_oku hj (by cbv) (by cbv) rfl ?_ ?_ (upd_of ?_)⟩) | (refine ⟨.inl rfl, ret_oku hj (by cbv) (by cbv) rfl ?_ ?_ (upd_of ?_)⟩) | ((first | with_reducible refine tr_cut (fun h => ?_) (fun h => ?_) | refine aw_condj (by cbv) (fun h => ?_) (fun h => ?_)) <;> (try simp (disch := omega) only [hj, std, cmpI, cmpB, satB, Bool.not_eq_true, Bool.not_eq_false, decide_eq_true_eq, decide_eq_false_iff_not, beq_iff_eq, bne_iff_ne, bne_eq_false_iff_eq, beq_eq_false_iff_ne, ne_eq, reduceCtorEq, not_true_eq_false, not_false_eq_true, pl0, if_true, cmpS_eq, cmpS_neq, Bool.not_eq_eq_eq_not, Bool.not_true, Bool.not_false, Bool.not_eq_true', r1, add64, sub64] at h) <;> (try (exfalso; omega))) | (with_reducible refine tr_alt (fun h => ?_) ?_ <;> (try (exfalso; omega))) | (with_reducible refine tr_ob ?_ ?_) | (with_reducible refine tr_done ?_) | (refine aw_dr1 (id := 7) hj tok hm (bookI1 x_zN x_secN x_div16) true [(0, false), (2, false), (3, false), (4, false), (5, false), (1, true), (6, true), (7, true), (8, true), (9, true)] (by kernel_rfl) (by cbv) ?_) | (refine aw_dr (id := 7) hj tok hm (bookI1 x_zN x_secN x_div16) true [(0, false), (2, false), (3, false), (4, false), (5, false), (1, true), (6, true), (7, true), (8, true), (9, true)] (by kernel_rfl) (by cbv) ?_) | (with_reducible refine dr_go (by cbv) ?_) | (refine aw_dw1 (id := 3) hj tok hm (bookI1 x_zN x_secN x_div16) [(0, false), (1, false), (2, false), (3, false), (4, false), (5, false), (6, false), (7, false), (8, false), (9, false), (10, false), (11, false), (12, false), (13, false), (14, false), (15, true), (16, true), (17, true), (18, true), (19, true), (20, true), (21, true), (22, true), (23, true), (24, true), (25, true)] [(26, true)] [0, 1, 2, 3, 4, 5, 6, 7, 8, 9, 10, 11, 12, 13, 14] (by kernel_rfl) (by cbv) ?_) | (refine aw_dw (id := 3) hj tok hm (bookI1 x_zN x_secN x_div16) [(0, false), (1, false), (2, false), (3, false), (4, false), (5, false), (6, false), (7, false), (8, false), (9, false), (10, false), (11, false), (12, false), (13, false), (14, false), (15, true), (16, true), (17, true), (18, true), (19, true), (20, true), (21, true), (22, true), (23, true), (24, true), (25, true)] [(26, true)] [0, 1, 2, 3, 4, 5, 6, 7, 8, 9, 10, 11, 12, 13, 14] (by kernel_rfl) (by cbv) ?_) | (refine aw_tr hj tok (bookI1 x_zN x_secN x_div16) (by cbv) ?_) | (refine aw_seq fun K hK => ?_) | (refine aw_tr1 hj tok (bookI1 x_zN x_secN x_div16) (by cbv) ?_) | (refine aw_skip ?_) | (refine aw_block ?_) | (refine aw_exit ?_) | (refine aw_ret ⟨.inr rfl, ret_okj hj (by cbv) ?_ ?_⟩) | (refine aw_ret ?_) | (with_reducible refine th_n ?_) | (with_reducible refine th_r ?_) | (with_reducible refine th_x ?_) | (with_reducible refine blk_n ?_) | (with_reducible refine blk_r ?_) | (with_reducible refine blk_x ?_) | (with_reducible refine blk_y rfl ?_) | (refine ⟨.inr rfl, ret_okj hj (by cbv) ?_ ?_⟩) | (refine ⟨.inl rfl, ret_okj hj (by cbv) ?_ ?_⟩) | ((with_reducible refine ⟨(_, _, _), by cbv, ?_, ?_⟩)) | ((with_reducible refine ⟨_, by cbv, ?_, ?_⟩)) | (with_reducible apply_assumption -symm -exfalso only [*]))
        all_goals ((try subst y_zN); (try subst y_secN); (try subst y_div16); (try subst y_crN); (try subst y_crC); (try subst y_crK))
        all_goals (try (repeat' first | with_reducible exact obl0 | with_reducible refine obl1 ?_ ?_))
        all_goals (try first | with_reducible exact True.intro | ((first | refine ob_le hj ?_ | refine ob_lei hj ?_ | refine ob_inb hj ?_ | refine ob_pos hj ?_ | refine ob_ne0 hj ?_ | refine ob_eqb hj ?_); (first | rfl | first | omega | (simp only [hj, std]; split <;> omega) | (simp (disch := omega) only [hj, std, cmpI, cmpB, satB, add64, sub64, ite0, pl0, pl2, pl3, sb0, if_true, if_false, eq_self] <;> omega) | (simp (disch := omega) [hj, std, cmpI, cmpB, satB, add64, sub64, ite0, pl0, pl2, pl3, sb0, if_true, if_false, eq_self] <;> omega))) | ((refine ob_pc hj ?_; (try rw [hj]); exact c_sector _ (by omega) (by omega))) | ((simp (disch := omega) only [hj, std, add64, sub64, f1]; first | omega | exact ⟨by omega, by omega, hN, hset⟩)))
      · omega
  · have hi2 : i = crN n s sz := by omega
    have hD2 : D = crC n s sz cs ks := by rw [hD, hi2, hend]
    generalize y_zN : @zN = x_zN at *
    generalize y_secN : @secN = x_secN at *
    generalize y_div16 : @div16 = x_div16 at *
    generalize y_crN : @crN = x_crN at *
    generalize y_crC : @crC = x_crC at *
    generalize y_crK : @crK = x_crK at *
    (repeat' first | (refine ⟨.inr rfl, ret_oku hj (by cbv) (by cbv) rfl ?_ ?_ (upd_of ?_)⟩) | (refine ⟨.inl rfl, ret_oku hj (by cbv) (by cbv) rfl ?_ ?_ (upd_of ?_)⟩) | ((first | with_reducible refine tr_cut (fun h => ?_) (fun h => ?_) | refine aw_condj (by cbv) (fun h => ?_) (fun h => ?_)) <;> (try simp (disch := omega) only [hj, std, cmpI, cmpB, satB, Bool.not_eq_true, Bool.not_eq_false, decide_eq_true_eq, decide_eq_false_iff_not, beq_iff_eq, bne_iff_ne, bne_eq_false_iff_eq, beq_eq_false_iff_ne, ne_eq, reduceCtorEq, not_true_eq_false, not_false_eq_true, pl0, if_true, cmpS_eq, cmpS_neq, Bool.not_eq_eq_eq_not, Bool.not_true, Bool.not_false, Bool.not_eq_true', add64, sub64] at h) <;> (try (exfalso; omega))) | (with_reducible refine tr_alt (fun h => ?_) ?_ <;> (try (exfalso; omega))) | (with_reducible refine tr_ob ?_ ?_) | (with_reducible refine tr_done ?_) | (refine aw_dr1 (id := 7) hj tok hm (bookI1 x_zN x_secN x_div16) true [(0, false), (2, false), (3, false), (4, false), (5, false), (1, true), (6, true), (7, true), (8, true), (9, true)] (by kernel_rfl) (by cbv) ?_) | (refine aw_dr (id := 7) hj tok hm (bookI1 x_zN x_secN x_div16) true [(0, false), (2, false), (3, false), (4, false), (5, false), (1, true), (6, true), (7, true), (8, true), (9, true)] (by kernel_rfl) (by cbv) ?_) | (with_reducible refine dr_go (by cbv) ?_) | (refine aw_dw1 (id := 3) hj tok hm (bookI1 x_zN x_secN x_div16) [(0, false), (1, false), (2, false), (3, false), (4, false), (5, false), (6, false), (7, false), (8, false), (9, false), (10, false), (11, false), (12, false), (13, false), (14, false), (15, true), (16, true), (17, true), (18, true), (19, true), (20, true), (21, true), (22, true), (23, true), (24, true), (25, true)] [(26, true)] [0, 1, 2, 3, 4, 5, 6, 7, 8, 9, 10, 11, 12, 13, 14] (by kernel_rfl) (by cbv) ?_) | (refine aw_dw (id := 3) hj tok hm (bookI1 x_zN x_secN x_div16) [(0, false), (1, false), (2, false), (3, false), (4, false), (5, false), (6, false), (7, false), (8, false), (9, false), (10, false), (11, false), (12, false), (13, false), (14, false), (15, true), (16, true), (17, true), (18, true), (19, true), (20, true), (21, true), (22, true), (23, true), (24, true), (25, true)] [(26, true)] [0, 1, 2, 3, 4, 5, 6, 7, 8, 9, 10, 11, 12, 13, 14] (by kernel_rfl) (by cbv) ?_) | (refine aw_tr hj tok (bookI1 x_zN x_secN x_div16) (by cbv) ?_) | (refine aw_seq fun K hK => ?_) | (refine aw_tr1 hj tok (bookI1 x_zN x_secN x_div16) (by cbv) ?_) | (refine aw_skip ?_) | (refine aw_block ?_) | (refine aw_exit ?_) | (refine aw_ret ⟨.inr rfl, ret_okj hj (by cbv) ?_ ?_⟩) | (refine aw_ret ?_) | (with_reducible refine th_n ?_) | (with_reducible refine th_r ?_) | (with_reducible refine th_x ?_) | (with_reducible refine blk_n ?_) | (with_reducible refine blk_r ?_) | (with_reducible refine blk_x ?_) | (with_reducible refine blk_y rfl ?_) | (refine ⟨.inr rfl, ret_okj hj (by cbv) ?_ ?_⟩) | (refine ⟨.inl rfl, ret_okj hj (by cbv) ?_ ?_⟩) | ((with_reducible refine ⟨(_, _, _), by cbv, ?_, ?_⟩)) | ((with_reducible refine ⟨_, by cbv, ?_, ?_⟩)) | (with_reducible apply_assumption -symm -exfalso only [*]))
    all_goals ((try subst y_zN); (try subst y_secN); (try subst y_div16); (try subst y_crN); (try subst y_crC); (try subst y_crK))
    all_goals (try (repeat' first | with_reducible exact obl0 | with_reducible refine obl1 ?_ ?_))
    all_goals (try first | with_reducible exact True.intro | (refine ob_pc hj ?_; (try rw [hj]); first | exact c_SyncI _ _ _) | (refine ob_pcn hj ?_; (try rw [hj]); first | exact c_SyncI _ _ _) | ((first | refine ob_le hj ?_ | refine ob_lei hj ?_ | refine ob_inb hj ?_ | refine ob_pos hj ?_ | refine ob_ne0 hj ?_ | refine ob_eqb hj ?_); (first | rfl | first | omega | (simp only [hj, std]; split <;> omega) | (simp (disch := omega) only [hj, std, cmpI, cmpB, satB, add64, sub64, ite0, pl0, pl2, pl3, sb0, if_true, if_false, eq_self] <;> omega) | (simp (disch := omega) [hj, std, cmpI, cmpB, satB, add64, sub64, ite0, pl0, pl2, pl3, sb0, if_true, if_false, eq_self] <;> omega))) | ((refine ob_pc hj ?_; (try rw [hj]); exact c_SectorsI _ _ _ (by omega) (by omega) (by omega))) | ((refine ob_vals hj ?_; exact hcvi)) | ((rw [eCK, ← hN, hj]; first | done | exact rfl)) | ((refine upd_box ?_ (upd_none (upd_none (upd_nil _))); rw [← hN, ← hD2]; rfl)))
end Go.Proofs.Ytnmlcfjljeccnaa.A
/- The reference of layer 8; a bit turned. -/
set_option linter.unusedSimpArgs false
set_option linter.unusedVariables false
set_option maxRecDepth 100000
set_option maxHeartbeats 4000000
namespace Go.Proofs.Ytnmlcfjljeccnaa.A
open Go
abbrev rMem (n : Nat) (cs : List C) (s : Nat) (ds : List C) : Arg := .v true [.sl n cs, .sl s ds]
/-! ### the reference's sectors -/
theorem pc_RSec (n s : Nat) (cs ds : List C) (h1 : s ≤ n) (h2 : n ≤ 140737488355328) : PC Try.prog T 27 [rMem n cs s ds] (ret1 (.st (vI (secN n s)))) [] := by
  have hS : ∀ i : Int, (s : Int) < i → secN i s = (i - 1) / 16 - (s : Int) / 16 + 1 := fun i hi => by unfold secN; rw [if_neg (by omega)]
  refine pc_of tok Try.func27 rfl (by rfl) ?_
  obtain ⟨j, hj⟩ : ∃ j : J, j = std Try.prog T := ⟨_, rfl⟩
  have hm : Try.prog.follows .mixedOrders = true := by kernel_rfl
  generalize y_secN : @secN = x_secN at *
  (repeat' first | ((first | with_reducible refine tr_cut (fun h => ?_) (fun h => ?_) | refine aw_condj (by cbv) (fun h => ?_) (fun h => ?_)) <;> (try simp (disch := omega) only [hj, std, cmpI, cmpB, satB, Bool.not_eq_true, Bool.not_eq_false, decide_eq_true_eq, decide_eq_false_iff_not, beq_iff_eq, bne_iff_ne, bne_eq_false_iff_eq, beq_eq_false_iff_ne, ne_eq, reduceCtorEq, not_true_eq_false, not_false_eq_true, pl0, if_true, cmpS_eq, cmpS_neq, Bool.not_eq_eq_eq_not, Bool.not_true, Bool.not_false, Bool.not_eq_true', add64, sub64] at h) <;> (try (exfalso; omega))) | (with_reducible refine tr_alt (fun h => ?_) ?_ <;> (try (exfalso; omega))) | (with_reducible refine tr_ob ?_ ?_) | (with_reducible refine tr_done ?_) | (refine aw_tr hj tok bookI0 (by cbv) ?_) | (refine aw_seq fun K hK => ?_) | (refine aw_tr1 hj tok bookI0 (by cbv) ?_) | (refine aw_skip ?_) | (refine aw_block ?_) | (refine aw_exit ?_) | (refine aw_ret ⟨.inr rfl, ret_okj hj (by cbv) ?_ ?_⟩) | (refine aw_ret ?_) | (with_reducible refine th_n ?_) | (with_reducible refine th_r ?_) | (with_reducible refine th_x ?_) | (with_reducible refine blk_n ?_) | (with_reducible refine blk_r ?_) | (with_reducible refine blk_x ?_) | (with_reducible refine blk_y rfl ?_) | (refine ⟨.inr rfl, ret_okj hj (by cbv) ?_ ?_⟩) | (refine ⟨.inl rfl, ret_okj hj (by cbv) ?_ ?_⟩) | ((with_reducible refine ⟨(_, _, _), by cbv, ?_, ?_⟩)) | ((with_reducible refine ⟨_, by cbv, ?_, ?_⟩)) | (with_reducible apply_assumption -symm -exfalso only [*]))
  all_goals ((try subst y_secN))
  all_goals (try (repeat' first | with_reducible exact obl0 | with_reducible refine obl1 ?_ ?_))
  all_goals (try first | with_reducible exact True.intro | ((first | refine ob_le hj ?_ | refine ob_lei hj ?_ | refine ob_inb hj ?_ | refine ob_pos hj ?_ | refine ob_ne0 hj ?_ | refine ob_eqb hj ?_); (first | rfl | first | omega | (simp only [hj, std]; split <;> omega) | (simp (disch := omega) only [hj, std, cmpI, cmpB, satB, add64, sub64, ite0, pl0, pl2, pl3, sb0, if_true, if_false, eq_self] <;> omega) | (simp (disch := omega) [hj, std, cmpI, cmpB, satB, add64, sub64, ite0, pl0, pl2, pl3, sb0, if_true, if_false, eq_self] <;> omega))))
  refine aw_lpj hj [(1, .keep), (3, .keep), (4, .keep), (5, .keep)] [1] (fun (⟨g, la, i⟩ : Int × Int × Int) => stOf 25 [(1, .one (.ptr 1 0)), (3, .one (.c (vI g))), (4, .one (.c (vI la))), (5, .one (.c (vI i)))] [(1, .box [.st (.sl n cs), .st (.sl s ds)])]) (fun (⟨g, la, i⟩ : Int × Int × Int) => n - i.toNat) (fun (⟨g, la, i⟩ : Int × Int × Int) => s ≤ i ∧ i ≤ n ∧ g = secN i s ∧ (i = s ∧ la = -1 ∨ (s : Int) < i ∧ la = (i - 1) / 16)) ((_, _, _)) (by generalize @secN = x_secN; cbv) ?_ (fun ⟨g, la, i⟩ hI => ?_)
  · simp only [hj, std]
    exact ⟨by omega, by omega, (by unfold secN; rw [if_pos rfl]), .inl ⟨by trivial, by trivial⟩⟩
  obtain ⟨i1, i2, hg, hla⟩ := hI
  rcases Decidable.em (i < (n : Int)) with hi | hi
  · have hS1 := hS (i + 1) (by omega)
    have hS0 := hS i
    have q1 : arithI .quo .i64 i 16 = i / 16 := by
      show IntKind.wrap .i64 (i.tdiv 16) = _
      rw [Int.tdiv_eq_ediv_of_nonneg (by omega), wrap64 (by omega) (by omega)]
    have hz : i = s → secN i s = 0 := fun e => by unfold secN; rw [if_pos e.symm]
    have gb : 0 ≤ g ∧ g ≤ i := by
      rcases hla with ⟨e, _⟩ | ⟨e, _⟩
      · rw [hg, hz e]; omega
      · rw [hg, hS0 e]; omega
    have key : (if i / 16 ≠ la then g + 1 else g) = secN (i + 1) s ∧ (i + 1 - 1) / 16 = i / 16 := by
      refine ⟨?_, by omega⟩
      rcases hla with ⟨e, e2⟩ | ⟨e, e2⟩
      · rw [if_pos (by omega), hg, hz e, hS1]; omega
      · split
        · rw [hg, hS0 e, hS1]; omega
        · rw [hg, hS0 e, hS1]; omega
    obtain ⟨key, k16⟩ := key
    clear hS hS0 hS1 hz hla
    rcases Decidable.em (i / 16 = la) with hl | hl
    · rw [if_neg (by simpa using hl)] at key
      generalize y_secN : @secN = x_secN at *
      (repeat' first | ((first | with_reducible refine tr_cut (fun h => ?_) (fun h => ?_) | refine aw_condj (by cbv) (fun h => ?_) (fun h => ?_)) <;> (try simp (disch := omega) only [hj, std, cmpI, cmpB, satB, Bool.not_eq_true, Bool.not_eq_false, decide_eq_true_eq, decide_eq_false_iff_not, beq_iff_eq, bne_iff_ne, bne_eq_false_iff_eq, beq_eq_false_iff_ne, ne_eq, reduceCtorEq, not_true_eq_false, not_false_eq_true, pl0, if_true, cmpS_eq, cmpS_neq, Bool.not_eq_eq_eq_not, Bool.not_true, Bool.not_false, Bool.not_eq_true', q1, add64, sub64] at h) <;> (try (exfalso; omega))) | (with_reducible refine tr_alt (fun h => ?_) ?_ <;> (try (exfalso; omega))) | (with_reducible refine tr_ob ?_ ?_) | (with_reducible refine tr_done ?_) | (refine aw_tr hj tok bookI0 (by cbv) ?_) | (refine aw_seq fun K hK => ?_) | (refine aw_tr1 hj tok bookI0 (by cbv) ?_) | (refine aw_skip ?_) | (refine aw_block ?_) | (refine aw_exit ?_) | (refine aw_ret ⟨.inr rfl, ret_okj hj (by cbv) ?_ ?_⟩) | (refine aw_ret ?_) | (with_reducible refine th_n ?_) | (with_reducible refine th_r ?_) | (with_reducible refine th_x ?_) | (with_reducible refine blk_n ?_) | (with_reducible refine blk_r ?_) | (with_reducible refine blk_x ?_) | (with_reducible refine blk_y rfl ?_) | (refine ⟨.inr rfl, ret_okj hj (by cbv) ?_ ?_⟩) | (refine ⟨.inl rfl, ret_okj hj (by cbv) ?_ ?_⟩) | ((with_reducible refine ⟨(_, _, _), by cbv, ?_, ?_⟩)) | ((with_reducible refine ⟨_, by cbv, ?_, ?_⟩)) | (with_reducible apply_assumption -symm -exfalso only [*]))
      all_goals ((try subst y_secN))
      all_goals (try (repeat' first | with_reducible exact obl0 | with_reducible refine obl1 ?_ ?_))
      all_goals (try first | with_reducible exact True.intro | ((first | refine ob_le hj ?_ | refine ob_lei hj ?_ | refine ob_inb hj ?_ | refine ob_pos hj ?_ | refine ob_ne0 hj ?_ | refine ob_eqb hj ?_); (first | rfl | first | omega | (simp only [hj, std]; split <;> omega) | (simp (disch := omega) only [hj, std, cmpI, cmpB, satB, add64, sub64, ite0, pl0, pl2, pl3, sb0, if_true, if_false, eq_self] <;> omega) | (simp (disch := omega) [hj, std, cmpI, cmpB, satB, add64, sub64, ite0, pl0, pl2, pl3, sb0, if_true, if_false, eq_self] <;> omega))) | ((simp (disch := omega) only [hj, std, add64, q1]; first | omega | exact ⟨by omega, by omega, key, .inr ⟨by omega, by omega⟩⟩)))
    · rw [if_pos hl] at key
      generalize y_secN : @secN = x_secN at *
      (repeat' first | ((first | with_reducible refine tr_cut (fun h => ?_) (fun h => ?_) | refine aw_condj (by cbv) (fun h => ?_) (fun h => ?_)) <;> (try simp (disch := omega) only [hj, std, cmpI, cmpB, satB, Bool.not_eq_true, Bool.not_eq_false, decide_eq_true_eq, decide_eq_false_iff_not, beq_iff_eq, bne_iff_ne, bne_eq_false_iff_eq, beq_eq_false_iff_ne, ne_eq, reduceCtorEq, not_true_eq_false, not_false_eq_true, pl0, if_true, cmpS_eq, cmpS_neq, Bool.not_eq_eq_eq_not, Bool.not_true, Bool.not_false, Bool.not_eq_true', q1, add64, sub64] at h) <;> (try (exfalso; omega))) | (with_reducible refine tr_alt (fun h => ?_) ?_ <;> (try (exfalso; omega))) | (with_reducible refine tr_ob ?_ ?_) | (with_reducible refine tr_done ?_) | (refine aw_tr hj tok bookI0 (by cbv) ?_) | (refine aw_seq fun K hK => ?_) | (refine aw_tr1 hj tok bookI0 (by cbv) ?_) | (refine aw_skip ?_) | (refine aw_block ?_) | (refine aw_exit ?_) | (refine aw_ret ⟨.inr rfl, ret_okj hj (by cbv) ?_ ?_⟩) | (refine aw_ret ?_) | (with_reducible refine th_n ?_) | (with_reducible refine th_r ?_) | (with_reducible refine th_x ?_) | (with_reducible refine blk_n ?_) | (with_reducible refine blk_r ?_) | (with_reducible refine blk_x ?_) | (with_reducible refine blk_y rfl ?_) | (refine ⟨.inr rfl, ret_okj hj (by cbv) ?_ ?_⟩) | (refine ⟨.inl rfl, ret_okj hj (by cbv) ?_ ?_⟩) | ((with_reducible refine ⟨(_, _, _), by cbv, ?_, ?_⟩)) | ((with_reducible refine ⟨_, by cbv, ?_, ?_⟩)) | (with_reducible apply_assumption -symm -exfalso only [*]))
      all_goals ((try subst y_secN))
      all_goals (try (repeat' first | with_reducible exact obl0 | with_reducible refine obl1 ?_ ?_))
      all_goals (try first | with_reducible exact True.intro | ((first | refine ob_le hj ?_ | refine ob_lei hj ?_ | refine ob_inb hj ?_ | refine ob_pos hj ?_ | refine ob_ne0 hj ?_ | refine ob_eqb hj ?_); (first | rfl | first | omega | (simp only [hj, std]; split <;> omega) | (simp (disch := omega) only [hj, std, cmpI, cmpB, satB, add64, sub64, ite0, pl0, pl2, pl3, sb0, if_true, if_false, eq_self] <;> omega) | (simp (disch := omega) [hj, std, cmpI, cmpB, satB, add64, sub64, ite0, pl0, pl2, pl3, sb0, if_true, if_false, eq_self] <;> omega))) | ((simp (disch := omega) only [hj, std, add64, q1]; first | omega | exact ⟨by omega, by omega, key, .inr ⟨by omega, by omega⟩⟩)))
  · have e : i = n := by omega
    rw [e] at hg
    generalize y_secN : @secN = x_secN at *
    (repeat' first | ((first | with_reducible refine tr_cut (fun h => ?_) (fun h => ?_) | refine aw_condj (by cbv) (fun h => ?_) (fun h => ?_)) <;> (try simp (disch := omega) only [hj, std, cmpI, cmpB, satB, Bool.not_eq_true, Bool.not_eq_false, decide_eq_true_eq, decide_eq_false_iff_not, beq_iff_eq, bne_iff_ne, bne_eq_false_iff_eq, beq_eq_false_iff_ne, ne_eq, reduceCtorEq, not_true_eq_false, not_false_eq_true, pl0, if_true, cmpS_eq, cmpS_neq, Bool.not_eq_eq_eq_not, Bool.not_true, Bool.not_false, Bool.not_eq_true', add64, sub64] at h) <;> (try (exfalso; omega))) | (with_reducible refine tr_alt (fun h => ?_) ?_ <;> (try (exfalso; omega))) | (with_reducible refine tr_ob ?_ ?_) | (with_reducible refine tr_done ?_) | (refine aw_tr hj tok bookI0 (by cbv) ?_) | (refine aw_seq fun K hK => ?_) | (refine aw_tr1 hj tok bookI0 (by cbv) ?_) | (refine aw_skip ?_) | (refine aw_block ?_) | (refine aw_exit ?_) | (refine aw_ret ⟨.inr rfl, ret_okj hj (by cbv) ?_ ?_⟩) | (refine aw_ret ?_) | (with_reducible refine th_n ?_) | (with_reducible refine th_r ?_) | (with_reducible refine th_x ?_) | (with_reducible refine blk_n ?_) | (with_reducible refine blk_r ?_) | (with_reducible refine blk_x ?_) | (with_reducible refine blk_y rfl ?_) | (refine ⟨.inr rfl, ret_okj hj (by cbv) ?_ ?_⟩) | (refine ⟨.inl rfl, ret_okj hj (by cbv) ?_ ?_⟩) | ((with_reducible refine ⟨(_, _, _), by cbv, ?_, ?_⟩)) | ((with_reducible refine ⟨_, by cbv, ?_, ?_⟩)) | (with_reducible apply_assumption -symm -exfalso only [*]))
    all_goals ((try subst y_secN))
    all_goals (try (repeat' first | with_reducible exact obl0 | with_reducible refine obl1 ?_ ?_))
    all_goals (try first | with_reducible exact True.intro | ((first | refine ob_le hj ?_ | refine ob_lei hj ?_ | refine ob_inb hj ?_ | refine ob_pos hj ?_ | refine ob_ne0 hj ?_ | refine ob_eqb hj ?_); (first | rfl | first | omega | (simp only [hj, std]; split <;> omega) | (simp (disch := omega) only [hj, std, cmpI, cmpB, satB, add64, sub64, ite0, pl0, pl2, pl3, sb0, if_true, if_false, eq_self] <;> omega) | (simp (disch := omega) [hj, std, cmpI, cmpB, satB, add64, sub64, ite0, pl0, pl2, pl3, sb0, if_true, if_false, eq_self] <;> omega))) | ((rw [hg]; first | done | exact rfl)))
end Go.Proofs.Ytnmlcfjljeccnaa.A
/- The reference of layer 8: a crash. -/
set_option linter.unusedSimpArgs false
set_option linter.unusedVariables false
set_option maxRecDepth 100000
set_option maxHeartbeats 4000000
namespace Go.Proofs.Ytnmlcfjljeccnaa.A
open Go
def crR (s : Int) (cs ks : List C) (i : Int) : List C := (List.range i.toNat).map (crAt s cs ks)
theorem crR_snoc {s : Int} {cs ks : List C} {i : Int} (h0 : 0 ≤ i) : crR s cs ks (i + 1) = crR s cs ks i ++ [crAt s cs ks i.toNat] := by
  unfold crR
  rw [show (i + 1).toNat = i.toNat + 1 by omega, List.range_succ, List.map_append]; rfl
theorem crR_start {s : Nat} {cs ks : List C} (h : s ≤ cs.length) : crR s cs ks s = cs.take s := by
  refine List.ext_getElem (by simp [crR]; omega) fun q h1 h2 => ?_
  have hq : q < s := by simpa [crR] using h1
  simp only [crR, List.getElem_map, List.getElem_range]
  unfold crAt
  rw [if_neg (by omega)]
  simp [cellAt, List.getD_eq_getElem?_getD, List.getElem?_eq_getElem (show q < cs.length by omega)]
theorem u8_cell {c : C} (h : okK (.int .u8) c) : vU (gi c) = c := by obtain ⟨n, rfl⟩ := h; rfl
theorem pc_RCrash (n s kn : Nat) (cs ds ks : List C) (sz : Int) (h1 : s ≤ n) (h2 : n ≤ 140737488355328) (hl : cs.length = n) (hd : ds = cs.take s) (hk : ks.length = kn) (hk2 : kn ≤ 140737488355328) (hu : ∀ q, q < n → okK (.int .u8) (cellAt cs q)) (hks : ∀ q, q < kn → okK (.int .i64) (cellAt ks q)) :
    PC Try.prog T 55 [rMem n cs s ds, .v false [vI sz], .v false [.sl kn ks]] (ret1 (.own uT (crN n s sz) (crC n s sz cs ks))) [] := by
  have hdl : ds.length = s := by rw [hd, List.length_take]; omega
  obtain ⟨m0, m1⟩ := crN_le (n := n) (s := s) (sz := sz) (by omega) (by omega)
  have hmz : (if (if sz < 0 then 0 else sz) > (n : Int) - s then (n : Int) - s else (if sz < 0 then 0 else sz)) = (crN n s sz : Int) - s := by
    unfold crN; (repeat' split) <;> omega
  have hst : crR s cs ks s = ds := by rw [hd]; exact crR_start (by omega)
  have hen : crR s cs ks (crN n s sz) = crC n s sz cs ks := rfl
  generalize crN n s sz = m at *
  generalize crC n s sz cs ks = E at *
  refine pc_of tok Try.func55 rfl (by rfl) ?_
  obtain ⟨j, hj⟩ : ∃ j : J, j = std Try.prog T := ⟨_, rfl⟩
  have hm : Try.prog.follows .mixedOrders = true := by kernel_rfl
  generalize y_crN : @crN = x_crN at *
  generalize y_crC : @crC = x_crC at *
  (repeat' first | (with_reducible refine aw_stop (id := 4) ?_) | (with_reducible refine aw_stop1 (id := 4) ?_) | (with_reducible refine aw_stop2 (id := 4) ?_) | ((first | with_reducible refine tr_cut (fun h => ?_) (fun h => ?_) | refine aw_condj (by cbv) (fun h => ?_) (fun h => ?_)) <;> (try simp (disch := omega) only [hj, std, cmpI, cmpB, satB, Bool.not_eq_true, Bool.not_eq_false, decide_eq_true_eq, decide_eq_false_iff_not, beq_iff_eq, bne_iff_ne, bne_eq_false_iff_eq, beq_eq_false_iff_ne, ne_eq, reduceCtorEq, not_true_eq_false, not_false_eq_true, pl0, if_true, cmpS_eq, cmpS_neq, Bool.not_eq_eq_eq_not, Bool.not_true, Bool.not_false, Bool.not_eq_true', add64, sub64] at h) <;> (try (exfalso; omega))) | (with_reducible refine tr_alt (fun h => ?_) ?_ <;> (try (exfalso; omega))) | (with_reducible refine tr_ob ?_ ?_) | (with_reducible refine tr_done ?_) | (refine aw_tr hj tok bookI0 (by cbv) ?_) | (refine aw_seq fun K hK => ?_) | (refine aw_tr1 hj tok bookI0 (by cbv) ?_) | (refine aw_skip ?_) | (refine aw_block ?_) | (refine aw_exit ?_) | (refine aw_ret ⟨.inr rfl, ret_okj hj (by cbv) ?_ ?_⟩) | (refine aw_ret ?_) | (with_reducible refine th_n ?_) | (with_reducible refine th_r ?_) | (with_reducible refine th_x ?_) | (with_reducible refine blk_n ?_) | (with_reducible refine blk_r ?_) | (with_reducible refine blk_x ?_) | (with_reducible refine blk_y rfl ?_) | (refine ⟨.inr rfl, ret_okj hj (by cbv) ?_ ?_⟩) | (refine ⟨.inl rfl, ret_okj hj (by cbv) ?_ ?_⟩) | ((with_reducible refine ⟨(_, _, _, _, _, _), by cbv, ?_, ?_⟩)) | ((with_reducible refine ⟨(_, _), by cbv, ?_, ?_⟩)) | ((with_reducible refine ⟨_, by cbv, ?_, ?_⟩)) | (with_reducible apply_assumption -symm -exfalso only [*]))
  all_goals ((try subst y_crN); (try subst y_crC))
  all_goals (try (repeat' first | with_reducible exact obl0 | with_reducible refine obl1 ?_ ?_))
  all_goals (try first | with_reducible exact True.intro | ((first | refine ob_le hj ?_ | refine ob_lei hj ?_ | refine ob_inb hj ?_ | refine ob_pos hj ?_ | refine ob_ne0 hj ?_ | refine ob_eqb hj ?_); (first | rfl | first | omega | (simp only [hj, std]; split <;> omega) | (simp (disch := omega) only [hj, std, cmpI, cmpB, satB, add64, sub64, ite0, pl0, pl2, pl3, sb0, if_true, if_false, eq_self, hdl, hl] <;> omega) | (simp (disch := omega) [hj, std, cmpI, cmpB, satB, add64, sub64, ite0, pl0, pl2, pl3, sb0, if_true, if_false, eq_self, hdl, hl] <;> omega))))
  refine stop_go ?_; refine aw_joinj hj [(1, .keep), (2, .keep), (3, .keep), (7, .keep)] [3] (fun (⟨z, e⟩ : Int × Int) => stOf 74 [(1, .one (.c (vI z))), (2, .one (.c (.sl kn ks))), (3, .one (.ptr 3 0)), (7, .one (.c (vI e)))] [(3, .box [.st (.sl n cs), .st (.sl s ds)])]) (fun (⟨z, e⟩ : Int × Int) => e = (n : Int) - s ∧ z = (if sz < 0 then 0 else sz)) ?_ (fun ⟨z, e⟩ hI => ?_)
  · rcases Decidable.em (sz < 0) with hz | hz
    · rw [if_pos hz]
      generalize y_crN : @crN = x_crN at *
      generalize y_crC : @crC = x_crC at *
      (repeat' first | ((first | with_reducible refine tr_cut (fun h => ?_) (fun h => ?_) | refine aw_condj (by cbv) (fun h => ?_) (fun h => ?_)) <;> (try simp (disch := omega) only [hj, std, cmpI, cmpB, satB, Bool.not_eq_true, Bool.not_eq_false, decide_eq_true_eq, decide_eq_false_iff_not, beq_iff_eq, bne_iff_ne, bne_eq_false_iff_eq, beq_eq_false_iff_ne, ne_eq, reduceCtorEq, not_true_eq_false, not_false_eq_true, pl0, if_true, cmpS_eq, cmpS_neq, Bool.not_eq_eq_eq_not, Bool.not_true, Bool.not_false, Bool.not_eq_true', add64, sub64] at h) <;> (try (exfalso; omega))) | (with_reducible refine tr_alt (fun h => ?_) ?_ <;> (try (exfalso; omega))) | (with_reducible refine tr_ob ?_ ?_) | (with_reducible refine tr_done ?_) | (refine aw_tr hj tok bookI0 (by cbv) ?_) | (refine aw_seq fun K hK => ?_) | (refine aw_tr1 hj tok bookI0 (by cbv) ?_) | (refine aw_skip ?_) | (refine aw_block ?_) | (refine aw_exit ?_) | (refine aw_ret ⟨.inr rfl, ret_okj hj (by cbv) ?_ ?_⟩) | (refine aw_ret ?_) | (with_reducible refine th_n ?_) | (with_reducible refine th_r ?_) | (with_reducible refine th_x ?_) | (with_reducible refine blk_n ?_) | (with_reducible refine blk_r ?_) | (with_reducible refine blk_x ?_) | (with_reducible refine blk_y rfl ?_) | (refine ⟨.inr rfl, ret_okj hj (by cbv) ?_ ?_⟩) | (refine ⟨.inl rfl, ret_okj hj (by cbv) ?_ ?_⟩) | ((with_reducible refine ⟨(_, _, _, _, _, _), by cbv, ?_, ?_⟩)) | ((with_reducible refine ⟨(_, _), by cbv, ?_, ?_⟩)) | ((with_reducible refine ⟨_, by cbv, ?_, ?_⟩)) | (with_reducible apply_assumption -symm -exfalso only [*]))
      all_goals ((try subst y_crN); (try subst y_crC))
      all_goals (try (repeat' first | with_reducible exact obl0 | with_reducible refine obl1 ?_ ?_))
      all_goals (try first | with_reducible exact True.intro | ((first | refine ob_le hj ?_ | refine ob_lei hj ?_ | refine ob_inb hj ?_ | refine ob_pos hj ?_ | refine ob_ne0 hj ?_ | refine ob_eqb hj ?_); (first | rfl | first | omega | (simp only [hj, std]; split <;> omega) | (simp (disch := omega) only [hj, std, cmpI, cmpB, satB, add64, sub64, ite0, pl0, pl2, pl3, sb0, if_true, if_false, eq_self] <;> omega) | (simp (disch := omega) [hj, std, cmpI, cmpB, satB, add64, sub64, ite0, pl0, pl2, pl3, sb0, if_true, if_false, eq_self] <;> omega))) | ((simp (disch := omega) only [hj, std, sub64]; exact ⟨by trivial, by trivial⟩)))
    · rw [if_neg hz]
      generalize y_crN : @crN = x_crN at *
      generalize y_crC : @crC = x_crC at *
      (repeat' first | ((first | with_reducible refine tr_cut (fun h => ?_) (fun h => ?_) | refine aw_condj (by cbv) (fun h => ?_) (fun h => ?_)) <;> (try simp (disch := omega) only [hj, std, cmpI, cmpB, satB, Bool.not_eq_true, Bool.not_eq_false, decide_eq_true_eq, decide_eq_false_iff_not, beq_iff_eq, bne_iff_ne, bne_eq_false_iff_eq, beq_eq_false_iff_ne, ne_eq, reduceCtorEq, not_true_eq_false, not_false_eq_true, pl0, if_true, cmpS_eq, cmpS_neq, Bool.not_eq_eq_eq_not, Bool.not_true, Bool.not_false, Bool.not_eq_true', add64, sub64] at h) <;> (try (exfalso; omega))) | (with_reducible refine tr_alt (fun h => ?_) ?_ <;> (try (exfalso; omega))) | (with_reducible refine tr_ob ?_ ?_) | (with_reducible refine tr_done ?_) | (refine aw_tr hj tok bookI0 (by cbv) ?_) | (refine aw_seq fun K hK => ?_) | (refine aw_tr1 hj tok bookI0 (by cbv) ?_) | (refine aw_skip ?_) | (refine aw_block ?_) | (refine aw_exit ?_) | (refine aw_ret ⟨.inr rfl, ret_okj hj (by cbv) ?_ ?_⟩) | (refine aw_ret ?_) | (with_reducible refine th_n ?_) | (with_reducible refine th_r ?_) | (with_reducible refine th_x ?_) | (with_reducible refine blk_n ?_) | (with_reducible refine blk_r ?_) | (with_reducible refine blk_x ?_) | (with_reducible refine blk_y rfl ?_) | (refine ⟨.inr rfl, ret_okj hj (by cbv) ?_ ?_⟩) | (refine ⟨.inl rfl, ret_okj hj (by cbv) ?_ ?_⟩) | ((with_reducible refine ⟨(_, _, _, _, _, _), by cbv, ?_, ?_⟩)) | ((with_reducible refine ⟨(_, _), by cbv, ?_, ?_⟩)) | ((with_reducible refine ⟨_, by cbv, ?_, ?_⟩)) | (with_reducible apply_assumption -symm -exfalso only [*]))
      all_goals ((try subst y_crN); (try subst y_crC))
      all_goals (try (repeat' first | with_reducible exact obl0 | with_reducible refine obl1 ?_ ?_))
      all_goals (try first | with_reducible exact True.intro | ((first | refine ob_le hj ?_ | refine ob_lei hj ?_ | refine ob_inb hj ?_ | refine ob_pos hj ?_ | refine ob_ne0 hj ?_ | refine ob_eqb hj ?_); (first | rfl | first | omega | (simp only [hj, std]; split <;> omega) | (simp (disch := omega) only [hj, std, cmpI, cmpB, satB, add64, sub64, ite0, pl0, pl2, pl3, sb0, if_true, if_false, eq_self] <;> omega) | (simp (disch := omega) [hj, std, cmpI, cmpB, satB, add64, sub64, ite0, pl0, pl2, pl3, sb0, if_true, if_false, eq_self] <;> omega))) | ((simp (disch := omega) only [hj, std, sub64]; exact ⟨by trivial, by trivial⟩)))
  obtain ⟨he, hz⟩ := hI
  rw [← hz, ← he] at hmz
  generalize y_crN : @crN = x_crN at *
  generalize y_crC : @crC = x_crC at *
  (repeat' first | (with_reducible refine aw_stop (id := 6) ?_) | (with_reducible refine aw_stop1 (id := 6) ?_) | (with_reducible refine aw_stop2 (id := 6) ?_) | ((first | with_reducible refine tr_cut (fun h => ?_) (fun h => ?_) | refine aw_condj (by cbv) (fun h => ?_) (fun h => ?_)) <;> (try simp (disch := omega) only [hj, std, cmpI, cmpB, satB, Bool.not_eq_true, Bool.not_eq_false, decide_eq_true_eq, decide_eq_false_iff_not, beq_iff_eq, bne_iff_ne, bne_eq_false_iff_eq, beq_eq_false_iff_ne, ne_eq, reduceCtorEq, not_true_eq_false, not_false_eq_true, pl0, if_true, cmpS_eq, cmpS_neq, Bool.not_eq_eq_eq_not, Bool.not_true, Bool.not_false, Bool.not_eq_true', add64, sub64] at h) <;> (try (exfalso; omega))) | (with_reducible refine tr_alt (fun h => ?_) ?_ <;> (try (exfalso; omega))) | (with_reducible refine tr_ob ?_ ?_) | (with_reducible refine tr_done ?_) | (refine aw_tr hj tok bookI0 (by cbv) ?_) | (refine aw_seq fun K hK => ?_) | (refine aw_tr1 hj tok bookI0 (by cbv) ?_) | (refine aw_skip ?_) | (refine aw_block ?_) | (refine aw_exit ?_) | (refine aw_ret ⟨.inr rfl, ret_okj hj (by cbv) ?_ ?_⟩) | (refine aw_ret ?_) | (with_reducible refine th_n ?_) | (with_reducible refine th_r ?_) | (with_reducible refine th_x ?_) | (with_reducible refine blk_n ?_) | (with_reducible refine blk_r ?_) | (with_reducible refine blk_x ?_) | (with_reducible refine blk_y rfl ?_) | (refine ⟨.inr rfl, ret_okj hj (by cbv) ?_ ?_⟩) | (refine ⟨.inl rfl, ret_okj hj (by cbv) ?_ ?_⟩) | ((with_reducible refine ⟨(_, _, _, _, _, _), by cbv, ?_, ?_⟩)) | ((with_reducible refine ⟨(_, _), by cbv, ?_, ?_⟩)) | ((with_reducible refine ⟨_, by cbv, ?_, ?_⟩)) | (with_reducible apply_assumption -symm -exfalso only [*]))
  all_goals ((try subst y_crN); (try subst y_crC))
  all_goals (try (repeat' first | with_reducible exact obl0 | with_reducible refine obl1 ?_ ?_))
  all_goals (try first | with_reducible exact True.intro | ((first | refine ob_le hj ?_ | refine ob_lei hj ?_ | refine ob_inb hj ?_ | refine ob_pos hj ?_ | refine ob_ne0 hj ?_ | refine ob_eqb hj ?_); (first | rfl | first | omega | (simp only [hj, std]; split <;> omega) | (simp (disch := omega) only [hj, std, cmpI, cmpB, satB, add64, sub64, ite0, pl0, pl2, pl3, sb0, if_true, if_false, eq_self] <;> omega) | (simp (disch := omega) [hj, std, cmpI, cmpB, satB, add64, sub64, ite0, pl0, pl2, pl3, sb0, if_true, if_false, eq_self] <;> omega))))
  refine stop_go ?_; refine aw_joinj hj [(1, .keep), (2, .keep), (3, .keep)] [3] (fun (y : Int) => stOf 74 [(1, .one (.c (vI y))), (2, .one (.c (.sl kn ks))), (3, .one (.ptr 3 0))] [(3, .box [.st (.sl n cs), .st (.sl s ds)])]) (fun (y : Int) => y = (m : Int) - s) ?_ (fun y hI => ?_)
  · rcases Decidable.em (z > e) with hg | hg
    · rw [if_pos hg] at hmz
      generalize y_crN : @crN = x_crN at *
      generalize y_crC : @crC = x_crC at *
      (repeat' first | ((first | with_reducible refine tr_cut (fun h => ?_) (fun h => ?_) | refine aw_condj (by cbv) (fun h => ?_) (fun h => ?_)) <;> (try simp (disch := omega) only [hj, std, cmpI, cmpB, satB, Bool.not_eq_true, Bool.not_eq_false, decide_eq_true_eq, decide_eq_false_iff_not, beq_iff_eq, bne_iff_ne, bne_eq_false_iff_eq, beq_eq_false_iff_ne, ne_eq, reduceCtorEq, not_true_eq_false, not_false_eq_true, pl0, if_true, cmpS_eq, cmpS_neq, Bool.not_eq_eq_eq_not, Bool.not_true, Bool.not_false, Bool.not_eq_true', add64, sub64] at h) <;> (try (exfalso; omega))) | (with_reducible refine tr_alt (fun h => ?_) ?_ <;> (try (exfalso; omega))) | (with_reducible refine tr_ob ?_ ?_) | (with_reducible refine tr_done ?_) | (refine aw_tr hj tok bookI0 (by cbv) ?_) | (refine aw_seq fun K hK => ?_) | (refine aw_tr1 hj tok bookI0 (by cbv) ?_) | (refine aw_skip ?_) | (refine aw_block ?_) | (refine aw_exit ?_) | (refine aw_ret ⟨.inr rfl, ret_okj hj (by cbv) ?_ ?_⟩) | (refine aw_ret ?_) | (with_reducible refine th_n ?_) | (with_reducible refine th_r ?_) | (with_reducible refine th_x ?_) | (with_reducible refine blk_n ?_) | (with_reducible refine blk_r ?_) | (with_reducible refine blk_x ?_) | (with_reducible refine blk_y rfl ?_) | (refine ⟨.inr rfl, ret_okj hj (by cbv) ?_ ?_⟩) | (refine ⟨.inl rfl, ret_okj hj (by cbv) ?_ ?_⟩) | ((with_reducible refine ⟨(_, _, _, _, _, _), by cbv, ?_, ?_⟩)) | ((with_reducible refine ⟨(_, _), by cbv, ?_, ?_⟩)) | ((with_reducible refine ⟨_, by cbv, ?_, ?_⟩)) | (with_reducible apply_assumption -symm -exfalso only [*]))
      all_goals ((try subst y_crN); (try subst y_crC))
      all_goals (try (repeat' first | with_reducible exact obl0 | with_reducible refine obl1 ?_ ?_))
      all_goals (try first | with_reducible exact True.intro | ((first | refine ob_le hj ?_ | refine ob_lei hj ?_ | refine ob_inb hj ?_ | refine ob_pos hj ?_ | refine ob_ne0 hj ?_ | refine ob_eqb hj ?_); (first | rfl | first | omega | (simp only [hj, std]; split <;> omega) | (simp (disch := omega) only [hj, std, cmpI, cmpB, satB, add64, sub64, ite0, pl0, pl2, pl3, sb0, if_true, if_false, eq_self] <;> omega) | (simp (disch := omega) [hj, std, cmpI, cmpB, satB, add64, sub64, ite0, pl0, pl2, pl3, sb0, if_true, if_false, eq_self] <;> omega))) | (exact hmz))
    · rw [if_neg hg] at hmz
      generalize y_crN : @crN = x_crN at *
      generalize y_crC : @crC = x_crC at *
      (repeat' first | ((first | with_reducible refine tr_cut (fun h => ?_) (fun h => ?_) | refine aw_condj (by cbv) (fun h => ?_) (fun h => ?_)) <;> (try simp (disch := omega) only [hj, std, cmpI, cmpB, satB, Bool.not_eq_true, Bool.not_eq_false, decide_eq_true_eq, decide_eq_false_iff_not, beq_iff_eq, bne_iff_ne, bne_eq_false_iff_eq, beq_eq_false_iff_ne, ne_eq, reduceCtorEq, not_true_eq_false, not_false_eq_true, pl0, if_true, cmpS_eq, cmpS_neq, Bool.not_eq_eq_eq_not, Bool.not_true, Bool.not_false, Bool.not_eq_true', add64, sub64] at h) <;> (try (exfalso; omega))) | (with_reducible refine tr_alt (fun h => ?_) ?_ <;> (try (exfalso; omega))) | (with_reducible refine tr_ob ?_ ?_) | (with_reducible refine tr_done ?_) | (refine aw_tr hj tok bookI0 (by cbv) ?_) | (refine aw_seq fun K hK => ?_) | (refine aw_tr1 hj tok bookI0 (by cbv) ?_) | (refine aw_skip ?_) | (refine aw_block ?_) | (refine aw_exit ?_) | (refine aw_ret ⟨.inr rfl, ret_okj hj (by cbv) ?_ ?_⟩) | (refine aw_ret ?_) | (with_reducible refine th_n ?_) | (with_reducible refine th_r ?_) | (with_reducible refine th_x ?_) | (with_reducible refine blk_n ?_) | (with_reducible refine blk_r ?_) | (with_reducible refine blk_x ?_) | (with_reducible refine blk_y rfl ?_) | (refine ⟨.inr rfl, ret_okj hj (by cbv) ?_ ?_⟩) | (refine ⟨.inl rfl, ret_okj hj (by cbv) ?_ ?_⟩) | ((with_reducible refine ⟨(_, _, _, _, _, _), by cbv, ?_, ?_⟩)) | ((with_reducible refine ⟨(_, _), by cbv, ?_, ?_⟩)) | ((with_reducible refine ⟨_, by cbv, ?_, ?_⟩)) | (with_reducible apply_assumption -symm -exfalso only [*]))
      all_goals ((try subst y_crN); (try subst y_crC))
      all_goals (try (repeat' first | with_reducible exact obl0 | with_reducible refine obl1 ?_ ?_))
      all_goals (try first | with_reducible exact True.intro | ((first | refine ob_le hj ?_ | refine ob_lei hj ?_ | refine ob_inb hj ?_ | refine ob_pos hj ?_ | refine ob_ne0 hj ?_ | refine ob_eqb hj ?_); (first | rfl | first | omega | (simp only [hj, std]; split <;> omega) | (simp (disch := omega) only [hj, std, cmpI, cmpB, satB, add64, sub64, ite0, pl0, pl2, pl3, sb0, if_true, if_false, eq_self] <;> omega) | (simp (disch := omega) [hj, std, cmpI, cmpB, satB, add64, sub64, ite0, pl0, pl2, pl3, sb0, if_true, if_false, eq_self] <;> omega))) | (exact hmz))
  have hy := hI
  clear hmz hz he
  generalize y_crN : @crN = x_crN at *
  generalize y_crC : @crC = x_crC at *
  (repeat' first | ((first | with_reducible refine tr_cut (fun h => ?_) (fun h => ?_) | refine aw_condj (by cbv) (fun h => ?_) (fun h => ?_)) <;> (try simp (disch := omega) only [hj, std, cmpI, cmpB, satB, Bool.not_eq_true, Bool.not_eq_false, decide_eq_true_eq, decide_eq_false_iff_not, beq_iff_eq, bne_iff_ne, bne_eq_false_iff_eq, beq_eq_false_iff_ne, ne_eq, reduceCtorEq, not_true_eq_false, not_false_eq_true, pl0, if_true, cmpS_eq, cmpS_neq, Bool.not_eq_eq_eq_not, Bool.not_true, Bool.not_false, Bool.not_eq_true', add64, sub64] at h) <;> (try (exfalso; omega))) | (with_reducible refine tr_alt (fun h => ?_) ?_ <;> (try (exfalso; omega))) | (with_reducible refine tr_ob ?_ ?_) | (with_reducible refine tr_done ?_) | (refine aw_tr hj tok bookI0 (by cbv) ?_) | (refine aw_seq fun K hK => ?_) | (refine aw_tr1 hj tok bookI0 (by cbv) ?_) | (refine aw_skip ?_) | (refine aw_block ?_) | (refine aw_exit ?_) | (refine aw_ret ⟨.inr rfl, ret_okj hj (by cbv) ?_ ?_⟩) | (refine aw_ret ?_) | (with_reducible refine th_n ?_) | (with_reducible refine th_r ?_) | (with_reducible refine th_x ?_) | (with_reducible refine blk_n ?_) | (with_reducible refine blk_r ?_) | (with_reducible refine blk_x ?_) | (with_reducible refine blk_y rfl ?_) | (refine ⟨.inr rfl, ret_okj hj (by cbv) ?_ ?_⟩) | (refine ⟨.inl rfl, ret_okj hj (by cbv) ?_ ?_⟩) | ((with_reducible refine ⟨(_, _, _, _, _, _), by cbv, ?_, ?_⟩)) | ((with_reducible refine ⟨(_, _), by cbv, ?_, ?_⟩)) | ((with_reducible refine ⟨_, by cbv, ?_, ?_⟩)) | (with_reducible apply_assumption -symm -exfalso only [*]))
  all_goals ((try subst y_crN); (try subst y_crC))
  all_goals (try (repeat' first | with_reducible exact obl0 | with_reducible refine obl1 ?_ ?_))
  all_goals (try first | with_reducible exact True.intro | ((first | refine ob_le hj ?_ | refine ob_lei hj ?_ | refine ob_inb hj ?_ | refine ob_pos hj ?_ | refine ob_ne0 hj ?_ | refine ob_eqb hj ?_); (first | rfl | first | omega | (simp only [hj, std]; split <;> omega) | (simp (disch := omega) only [hj, std, cmpI, cmpB, satB, add64, sub64, ite0, pl0, pl2, pl3, sb0, if_true, if_false, eq_self, hdl] <;> omega) | (simp (disch := omega) [hj, std, cmpI, cmpB, satB, add64, sub64, ite0, pl0, pl2, pl3, sb0, if_true, if_false, eq_self, hdl] <;> omega))))
  refine aw_lpj hj [(1, .keep), (2, .keep), (3, .keep), (8, .own uT), (9, .keep), (10, .keep), (11, .keep), (12, .keep)] [3] (fun (⟨N2, D, k, la, th, i⟩ : Nat × (List C) × Int × Int × Int × Int) => stOf 74 [(1, .one (.c (vI y))), (2, .one (.c (.sl kn ks))), (3, .one (.ptr 3 0)), (8, .one (.view 8 0)), (9, .one (.c (vI k))), (10, .one (.c (vI la))), (11, .one (.c (vI th))), (12, .one (.c (vI i)))] [(8, .loose [.own uT N2 D]), (3, .box [.st (.sl n cs), .st (.sl s ds)])]) (fun (⟨N2, D, k, la, th, i⟩ : Nat × (List C) × Int × Int × Int × Int) => m - i.toNat) (fun (⟨N2, D, k, la, th, i⟩ : Nat × (List C) × Int × Int × Int × Int) => s ≤ i ∧ i ≤ m ∧ N2 = i.toNat ∧ D = crR s cs ks i ∧ (i = s ∧ k = -1 ∧ la = -1 ∨ (s : Int) < i ∧ la = (i - 1) / 16 ∧ k = (i - 1) / 16 - (s : Int) / 16 ∧ th = there s ks (i - 1))) ((_, _, _, _, _, _)) (by generalize @crN = x_crN; generalize @crC = x_crC; cbv) ?_ (fun ⟨N2, D, k, la, th, i⟩ hI => ?_)
  · simp only [hj, std, List.nil_append, pl2, pl3, ite_self, pl0, Nat.zero_add]
    exact ⟨by omega, by omega, by simp, hst.symm, .inl ⟨by trivial, by trivial, by trivial⟩⟩
  obtain ⟨i1, i2, hN, hD, hs⟩ := hI
  have hDl : D.length = N2 := by rw [hD, hN]; simp [crR]
  rcases Decidable.em (i < (m : Int)) with hi | hi
  · have q1 : arithI .quo .i64 i 16 = i / 16 := by
      show IntKind.wrap .i64 (i.tdiv 16) = _
      rw [Int.tdiv_eq_ediv_of_nonneg (by omega), wrap64 (by omega) (by omega)]
    have r1 := rem16 (i := i) (by omega)
    have hsn := crR_snoc (s := s) (cs := cs) (ks := ks) (i := i) (by omega)
    have hz : there s ks i ≤ i % 16 → crR s cs ks (i + 1) = D ++ [vU 0] := fun h => by rw [hsn, hD, crAt_zero (by omega) i1 h]
    have hn : ¬ there s ks i ≤ i % 16 → crR s cs ks (i + 1) = D ++ [vU (gi (cellAt cs i.toNat))] := fun h => by rw [hsn, hD, crAt_keep (by omega) h, u8_cell (hu _ (by omega))]
    have ht : there s ks i = if i / 16 - (s : Int) / 16 < ks.length then gi (cellAt ks (i / 16 - (s : Int) / 16).toNat) else 0 := rfl
    rw [hk] at ht
    have huc := hu i.toNat (by omega)
    have hkb : -1 ≤ k ∧ k ≤ 140737488355328 := by omega
    have f1 : (i + 1).toNat = i.toNat + 1 := by omega
    have hti : there s ks (i + 1 - 1) = there s ks i := by rw [show i + 1 - 1 = i by omega]
    have hold : i / 16 = la → k = i / 16 - (s : Int) / 16 ∧ th = there s ks i := fun h => by
      rcases hs with ⟨e1, e2, e3⟩ | ⟨e1, e2, e3, e4⟩
      · omega
      · refine ⟨by omega, ?_⟩
        rw [e4]; unfold there; rw [show (i - 1) / 16 = i / 16 by omega]
    have hnew : i / 16 ≠ la → k + 1 = i / 16 - (s : Int) / 16 := fun h => by omega
    have hok := hks (k + 1).toNat
    clear hsn hs hst hen
    rcases Decidable.em (i / 16 = la) with hl | hl
    · obtain ⟨a1, a2⟩ := hold hl
      rw [← a2] at hz hn hti
      clear hold hnew ht hok
      generalize y_crN : @crN = x_crN at *
      generalize y_crC : @crC = x_crC at *
      (repeat' first | ((first | with_reducible refine tr_cut (fun h => ?_) (fun h => ?_) | refine aw_condj (by cbv) (fun h => ?_) (fun h => ?_)) <;> (try simp (disch := omega) only [hj, std, cmpI, cmpB, satB, Bool.not_eq_true, Bool.not_eq_false, decide_eq_true_eq, decide_eq_false_iff_not, beq_iff_eq, bne_iff_ne, bne_eq_false_iff_eq, beq_eq_false_iff_ne, ne_eq, reduceCtorEq, not_true_eq_false, not_false_eq_true, pl0, if_true, cmpS_eq, cmpS_neq, Bool.not_eq_eq_eq_not, Bool.not_true, Bool.not_false, Bool.not_eq_true', q1, r1, add64, sub64] at h) <;> (try (exfalso; omega))) | (with_reducible refine tr_alt (fun h => ?_) ?_ <;> (try (exfalso; omega))) | (with_reducible refine tr_ob ?_ ?_) | (with_reducible refine tr_done ?_) | (refine aw_tr hj tok bookI0 (by cbv) ?_) | (refine aw_seq fun K hK => ?_) | (refine aw_tr1 hj tok bookI0 (by cbv) ?_) | (refine aw_skip ?_) | (refine aw_block ?_) | (refine aw_exit ?_) | (refine aw_ret ⟨.inr rfl, ret_okj hj (by cbv) ?_ ?_⟩) | (refine aw_ret ?_) | (with_reducible refine th_n ?_) | (with_reducible refine th_r ?_) | (with_reducible refine th_x ?_) | (with_reducible refine blk_n ?_) | (with_reducible refine blk_r ?_) | (with_reducible refine blk_x ?_) | (with_reducible refine blk_y rfl ?_) | (refine ⟨.inr rfl, ret_okj hj (by cbv) ?_ ?_⟩) | (refine ⟨.inl rfl, ret_okj hj (by cbv) ?_ ?_⟩) | ((with_reducible refine ⟨(_, _, _, _, _, _), by cbv, ?_, ?_⟩)) | ((with_reducible refine ⟨(_, _), by cbv, ?_, ?_⟩)) | ((with_reducible refine ⟨_, by cbv, ?_, ?_⟩)) | (with_reducible apply_assumption -symm -exfalso only [*]))
      all_goals ((try subst y_crN); (try subst y_crC))
      all_goals (try (repeat' first | with_reducible exact obl0 | with_reducible refine obl1 ?_ ?_))
      all_goals (try first | with_reducible exact True.intro | ((first | refine ob_le hj ?_ | refine ob_lei hj ?_ | refine ob_inb hj ?_ | refine ob_pos hj ?_ | refine ob_ne0 hj ?_ | refine ob_eqb hj ?_); (first | rfl | first | omega | (simp only [hj, std]; split <;> omega) | (simp (disch := omega) only [hj, std, cmpI, cmpB, satB, add64, sub64, ite0, pl0, pl2, pl3, sb0, if_true, if_false, eq_self, hl, hDl] <;> omega) | (simp (disch := omega) [hj, std, cmpI, cmpB, satB, add64, sub64, ite0, pl0, pl2, pl3, sb0, if_true, if_false, eq_self, hl, hDl] <;> omega))) | ((refine ob_ok hj ?_; (try rw [hj]); exact huc)) | ((simp (disch := omega) only [hj, std, add64, q1, f1, ite0]; first | omega | exact ⟨by omega, by omega, by omega, (hz (by omega)).symm, .inr ⟨by omega, by omega, by omega, hti.symm⟩⟩ | exact ⟨by omega, by omega, by omega, (hn (by omega)).symm, .inr ⟨by omega, by omega, by omega, hti.symm⟩⟩)))
    · have a1 := hnew hl
      rw [← a1] at ht
      rcases Decidable.em (k + 1 < (kn : Int)) with hkk | hkk
      · rw [if_pos hkk] at ht
        have hok := hok (by omega)
        clear hold hnew
        generalize there s ks i = tt at *
        generalize y_crN : @crN = x_crN at *
        generalize y_crC : @crC = x_crC at *
        (repeat' first | ((first | with_reducible refine tr_cut (fun h => ?_) (fun h => ?_) | refine aw_condj (by cbv) (fun h => ?_) (fun h => ?_)) <;> (try simp (disch := omega) only [hj, std, cmpI, cmpB, satB, Bool.not_eq_true, Bool.not_eq_false, decide_eq_true_eq, decide_eq_false_iff_not, beq_iff_eq, bne_iff_ne, bne_eq_false_iff_eq, beq_eq_false_iff_ne, ne_eq, reduceCtorEq, not_true_eq_false, not_false_eq_true, pl0, if_true, cmpS_eq, cmpS_neq, Bool.not_eq_eq_eq_not, Bool.not_true, Bool.not_false, Bool.not_eq_true', q1, r1, ← ht, add64, sub64] at h) <;> (try (exfalso; omega))) | (with_reducible refine tr_alt (fun h => ?_) ?_ <;> (try (exfalso; omega))) | (with_reducible refine tr_ob ?_ ?_) | (with_reducible refine tr_done ?_) | (refine aw_tr hj tok bookI0 (by cbv) ?_) | (refine aw_seq fun K hK => ?_) | (refine aw_tr1 hj tok bookI0 (by cbv) ?_) | (refine aw_skip ?_) | (refine aw_block ?_) | (refine aw_exit ?_) | (refine aw_ret ⟨.inr rfl, ret_okj hj (by cbv) ?_ ?_⟩) | (refine aw_ret ?_) | (with_reducible refine th_n ?_) | (with_reducible refine th_r ?_) | (with_reducible refine th_x ?_) | (with_reducible refine blk_n ?_) | (with_reducible refine blk_r ?_) | (with_reducible refine blk_x ?_) | (with_reducible refine blk_y rfl ?_) | (refine ⟨.inr rfl, ret_okj hj (by cbv) ?_ ?_⟩) | (refine ⟨.inl rfl, ret_okj hj (by cbv) ?_ ?_⟩) | ((with_reducible refine ⟨(_, _, _, _, _, _), by cbv, ?_, ?_⟩)) | ((with_reducible refine ⟨(_, _), by cbv, ?_, ?_⟩)) | ((with_reducible refine ⟨_, by cbv, ?_, ?_⟩)) | (with_reducible apply_assumption -symm -exfalso only [*]))
        all_goals ((try subst y_crN); (try subst y_crC))
        all_goals (try (repeat' first | with_reducible exact obl0 | with_reducible refine obl1 ?_ ?_))
        all_goals (try first | with_reducible exact True.intro | ((first | refine ob_le hj ?_ | refine ob_lei hj ?_ | refine ob_inb hj ?_ | refine ob_pos hj ?_ | refine ob_ne0 hj ?_ | refine ob_eqb hj ?_); (first | rfl | first | omega | (simp only [hj, std]; split <;> omega) | (simp (disch := omega) only [hj, std, cmpI, cmpB, satB, add64, sub64, ite0, pl0, pl2, pl3, sb0, if_true, if_false, eq_self, hl, hDl] <;> omega) | (simp (disch := omega) [hj, std, cmpI, cmpB, satB, add64, sub64, ite0, pl0, pl2, pl3, sb0, if_true, if_false, eq_self, hl, hDl] <;> omega))) | ((refine ob_ok hj ?_; (try rw [hj]); first | exact huc | (simp (disch := omega) only [std, add64]; exact hok))) | ((simp (disch := omega) only [hj, std, add64, q1, f1, ite0, ← ht]; first | omega | exact ⟨by omega, by omega, by omega, (hz (by omega)).symm, .inr ⟨by omega, by omega, by omega, hti.symm⟩⟩ | exact ⟨by omega, by omega, by omega, (hn (by omega)).symm, .inr ⟨by omega, by omega, by omega, hti.symm⟩⟩)))
      · rw [if_neg hkk] at ht
        rw [ht] at hz hn hti
        clear hold hnew hok
        generalize y_crN : @crN = x_crN at *
        generalize y_crC : @crC = x_crC at *
        (repeat' first | ((first | with_reducible refine tr_cut (fun h => ?_) (fun h => ?_) | refine aw_condj (by cbv) (fun h => ?_) (fun h => ?_)) <;> (try simp (disch := omega) only [hj, std, cmpI, cmpB, satB, Bool.not_eq_true, Bool.not_eq_false, decide_eq_true_eq, decide_eq_false_iff_not, beq_iff_eq, bne_iff_ne, bne_eq_false_iff_eq, beq_eq_false_iff_ne, ne_eq, reduceCtorEq, not_true_eq_false, not_false_eq_true, pl0, if_true, cmpS_eq, cmpS_neq, Bool.not_eq_eq_eq_not, Bool.not_true, Bool.not_false, Bool.not_eq_true', q1, r1, add64, sub64] at h) <;> (try (exfalso; omega))) | (with_reducible refine tr_alt (fun h => ?_) ?_ <;> (try (exfalso; omega))) | (with_reducible refine tr_ob ?_ ?_) | (with_reducible refine tr_done ?_) | (refine aw_tr hj tok bookI0 (by cbv) ?_) | (refine aw_seq fun K hK => ?_) | (refine aw_tr1 hj tok bookI0 (by cbv) ?_) | (refine aw_skip ?_) | (refine aw_block ?_) | (refine aw_exit ?_) | (refine aw_ret ⟨.inr rfl, ret_okj hj (by cbv) ?_ ?_⟩) | (refine aw_ret ?_) | (with_reducible refine th_n ?_) | (with_reducible refine th_r ?_) | (with_reducible refine th_x ?_) | (with_reducible refine blk_n ?_) | (with_reducible refine blk_r ?_) | (with_reducible refine blk_x ?_) | (with_reducible refine blk_y rfl ?_) | (refine ⟨.inr rfl, ret_okj hj (by cbv) ?_ ?_⟩) | (refine ⟨.inl rfl, ret_okj hj (by cbv) ?_ ?_⟩) | ((with_reducible refine ⟨(_, _, _, _, _, _), by cbv, ?_, ?_⟩)) | ((with_reducible refine ⟨(_, _), by cbv, ?_, ?_⟩)) | ((with_reducible refine ⟨_, by cbv, ?_, ?_⟩)) | (with_reducible apply_assumption -symm -exfalso only [*]))
        all_goals ((try subst y_crN); (try subst y_crC))
        all_goals (try (repeat' first | with_reducible exact obl0 | with_reducible refine obl1 ?_ ?_))
        all_goals (try first | with_reducible exact True.intro | ((first | refine ob_le hj ?_ | refine ob_lei hj ?_ | refine ob_inb hj ?_ | refine ob_pos hj ?_ | refine ob_ne0 hj ?_ | refine ob_eqb hj ?_); (first | rfl | first | omega | (simp only [hj, std]; split <;> omega) | (simp (disch := omega) only [hj, std, cmpI, cmpB, satB, add64, sub64, ite0, pl0, pl2, pl3, sb0, if_true, if_false, eq_self, hl, hDl] <;> omega) | (simp (disch := omega) [hj, std, cmpI, cmpB, satB, add64, sub64, ite0, pl0, pl2, pl3, sb0, if_true, if_false, eq_self, hl, hDl] <;> omega))) | ((refine ob_ok hj ?_; (try rw [hj]); exact huc)) | ((simp (disch := omega) only [hj, std, add64, q1, f1, ite0]; first | omega | exact ⟨by omega, by omega, by omega, (hz (by omega)).symm, .inr ⟨by omega, by omega, by omega, hti.symm⟩⟩ | exact ⟨by omega, by omega, by omega, (hn (by omega)).symm, .inr ⟨by omega, by omega, by omega, hti.symm⟩⟩)))
  · have e : i = m := by omega
    have eN : N2 = m := by omega
    rw [e, hen] at hD
    generalize y_crN : @crN = x_crN at *
    generalize y_crC : @crC = x_crC at *
    (repeat' first | ((first | with_reducible refine tr_cut (fun h => ?_) (fun h => ?_) | refine aw_condj (by cbv) (fun h => ?_) (fun h => ?_)) <;> (try simp (disch := omega) only [hj, std, cmpI, cmpB, satB, Bool.not_eq_true, Bool.not_eq_false, decide_eq_true_eq, decide_eq_false_iff_not, beq_iff_eq, bne_iff_ne, bne_eq_false_iff_eq, beq_eq_false_iff_ne, ne_eq, reduceCtorEq, not_true_eq_false, not_false_eq_true, pl0, if_true, cmpS_eq, cmpS_neq, Bool.not_eq_eq_eq_not, Bool.not_true, Bool.not_false, Bool.not_eq_true', add64, sub64] at h) <;> (try (exfalso; omega))) | (with_reducible refine tr_alt (fun h => ?_) ?_ <;> (try (exfalso; omega))) | (with_reducible refine tr_ob ?_ ?_) | (with_reducible refine tr_done ?_) | (refine aw_tr hj tok bookI0 (by cbv) ?_) | (refine aw_seq fun K hK => ?_) | (refine aw_tr1 hj tok bookI0 (by cbv) ?_) | (refine aw_skip ?_) | (refine aw_block ?_) | (refine aw_exit ?_) | (refine aw_ret ⟨.inr rfl, ret_okj hj (by cbv) ?_ ?_⟩) | (refine aw_ret ?_) | (with_reducible refine th_n ?_) | (with_reducible refine th_r ?_) | (with_reducible refine th_x ?_) | (with_reducible refine blk_n ?_) | (with_reducible refine blk_r ?_) | (with_reducible refine blk_x ?_) | (with_reducible refine blk_y rfl ?_) | (refine ⟨.inr rfl, ret_okj hj (by cbv) ?_ ?_⟩) | (refine ⟨.inl rfl, ret_okj hj (by cbv) ?_ ?_⟩) | ((with_reducible refine ⟨(_, _, _, _, _, _), by cbv, ?_, ?_⟩)) | ((with_reducible refine ⟨(_, _), by cbv, ?_, ?_⟩)) | ((with_reducible refine ⟨_, by cbv, ?_, ?_⟩)) | (with_reducible apply_assumption -symm -exfalso only [*]))
    all_goals ((try subst y_crN); (try subst y_crC))
    all_goals (try (repeat' first | with_reducible exact obl0 | with_reducible refine obl1 ?_ ?_))
    all_goals (try first | with_reducible exact True.intro | ((first | refine ob_le hj ?_ | refine ob_lei hj ?_ | refine ob_inb hj ?_ | refine ob_pos hj ?_ | refine ob_ne0 hj ?_ | refine ob_eqb hj ?_); (first | rfl | first | omega | (simp only [hj, std]; split <;> omega) | (simp (disch := omega) only [hj, std, cmpI, cmpB, satB, add64, sub64, ite0, pl0, pl2, pl3, sb0, if_true, if_false, eq_self] <;> omega) | (simp (disch := omega) [hj, std, cmpI, cmpB, satB, add64, sub64, ite0, pl0, pl2, pl3, sb0, if_true, if_false, eq_self] <;> omega))) | ((rw [eN, hD]; first | done | exact rfl)))
end Go.Proofs.Ytnmlcfjljeccnaa.A
/- A file of layer 8: a bit turned; few acts. -/
set_option linter.unusedSimpArgs false
set_option linter.unusedVariables false
set_option maxRecDepth 100000
set_option maxHeartbeats 4000000
namespace Go.Proofs.Ytnmlcfjljeccnaa.A
open Go
def flB (n : Nat) (bit : Int) : Bool := decide (0 ≤ bit ∧ bit < 8 * (n : Int))
def flV (cs : List C) (bit : Int) : Int := arithI .xor .u8 (gi (cellAt cs (bit / 8).toNat)) (arithI .shl .u8 1 (bit % 8))
def flC (n : Nat) (cs : List C) (bit : Int) : List C := if flB n bit = true then setC cs (bit / 8).toNat [vU (flV cs bit)] else cs
theorem flC_len {n : Nat} {cs : List C} {bit : Int} (h : cs.length = n) : (flC n cs bit).length = n := by
  unfold flC; split
  · next e =>
    have := of_decide_eq_true e
    unfold setC; simp; omega
  · exact h
theorem quo8 {i : Int} (h0 : 0 ≤ i) (h1 : i ≤ 9223372036854775807) : arithI .quo .i64 i 8 = i / 8 := by
  show IntKind.wrap .i64 (i.tdiv 8) = _
  rw [Int.tdiv_eq_ediv_of_nonneg h0, wrap64 (by omega) (by omega)]
theorem rem8 {i : Int} (h0 : 0 ≤ i) : arithI .rem .i64 i 8 = i % 8 := by show i.tmod 8 = _; rw [Int.tmod_eq_emod_of_nonneg h0]
theorem mul8 {n : Nat} (h : n ≤ 140737488355328) : arithI .mul .i64 8 (n : Int) = 8 * (n : Int) := wrap64 (by omega) (by omega)
theorem pc_FlipI (n : Nat) (cs : List C) (s bit : Int) (hl : cs.length = n) (h2 : n ≤ 140737488355328) (hu : ∀ q, q < n → okK (.int .u8) (cellAt cs q)) :
    PC Try.prog T 58 [.root (iBox n cs s), .v false [vI bit]] (ret1 (.st (vB (flB n bit)))) [iBox n (flC n cs bit) s, .none] := by
  have hz := zN_eq n
  have eB : flB n bit = decide (0 ≤ bit ∧ bit < 8 * (n : Int)) := rfl
  have eC : flC n cs bit = if flB n bit = true then setC cs (bit / 8).toNat [vU (flV cs bit)] else cs := rfl
  have m8 := mul8 h2
  rcases Decidable.em (0 ≤ bit ∧ bit < 8 * (n : Int)) with hb | hb
  · have q8 := quo8 (i := bit) (by omega) (by omega)
    have r8 := rem8 (i := bit) (by omega)
    rw [decide_eq_true hb] at eB
    rw [eB, if_pos rfl] at eC
    have hok := hu (bit / 8).toNat (by omega)
    rw [eB, eC]
    refine pc_of tok Try.func58 rfl (by rfl) ?_
    obtain ⟨j, hj⟩ : ∃ j : J, j = std Try.prog T := ⟨_, rfl⟩
    have hm : Try.prog.follows .mixedOrders = true := by kernel_rfl
    generalize y_zN : @zN = x_zN at *
    generalize y_secN : @secN = x_secN at *
    generalize y_div16 : @div16 = x_div16 at *
    generalize y_flB : @flB = x_flB at *
    generalize y_flC : @flC = x_flC at *
    (repeat' first | (refine ⟨.inr rfl, ret_oku hj (by cbv) (by cbv) rfl ?_ ?_ (upd_of ?_)⟩) | (refine ⟨.inl rfl, ret_oku hj (by cbv) (by cbv) rfl ?_ ?_ (upd_of ?_)⟩) | ((first | with_reducible refine tr_cut (fun h => ?_) (fun h => ?_) | refine aw_condj (by cbv) (fun h => ?_) (fun h => ?_)) <;> (try simp (disch := omega) only [hj, std, cmpI, cmpB, satB, Bool.not_eq_true, Bool.not_eq_false, decide_eq_true_eq, decide_eq_false_iff_not, beq_iff_eq, bne_iff_ne, bne_eq_false_iff_eq, beq_eq_false_iff_ne, ne_eq, reduceCtorEq, not_true_eq_false, not_false_eq_true, pl0, if_true, cmpS_eq, cmpS_neq, Bool.not_eq_eq_eq_not, Bool.not_true, Bool.not_false, Bool.not_eq_true', hz, m8, q8, r8, add64, sub64] at h) <;> (try (exfalso; omega))) | (with_reducible refine tr_alt (fun h => ?_) ?_ <;> (try (exfalso; omega))) | (with_reducible refine tr_ob ?_ ?_) | (with_reducible refine tr_done ?_) | (with_reducible refine dr_go (by cbv) ?_) | (refine aw_dw1 (id := 3) hj tok hm (bookI1 x_zN x_secN x_div16) [(0, false), (1, false), (2, false), (3, false), (4, false), (5, false), (6, false), (7, false), (8, true), (9, true), (10, true), (11, true), (12, true)] [(13, true)] [0, 1, 2, 3, 4, 5, 6, 7] (by kernel_rfl) (by cbv) ?_) | (refine aw_dw (id := 3) hj tok hm (bookI1 x_zN x_secN x_div16) [(0, false), (1, false), (2, false), (3, false), (4, false), (5, false), (6, false), (7, false), (8, true), (9, true), (10, true), (11, true), (12, true)] [(13, true)] [0, 1, 2, 3, 4, 5, 6, 7] (by kernel_rfl) (by cbv) ?_) | (refine aw_tr hj tok (bookI1 x_zN x_secN x_div16) (by cbv) ?_) | (refine aw_seq fun K hK => ?_) | (refine aw_tr1 hj tok (bookI1 x_zN x_secN x_div16) (by cbv) ?_) | (refine aw_skip ?_) | (refine aw_block ?_) | (refine aw_exit ?_) | (refine aw_ret ⟨.inr rfl, ret_okj hj (by cbv) ?_ ?_⟩) | (refine aw_ret ?_) | (with_reducible refine th_n ?_) | (with_reducible refine th_r ?_) | (with_reducible refine th_x ?_) | (with_reducible refine blk_n ?_) | (with_reducible refine blk_r ?_) | (with_reducible refine blk_x ?_) | (with_reducible refine blk_y rfl ?_) | (refine ⟨.inr rfl, ret_okj hj (by cbv) ?_ ?_⟩) | (refine ⟨.inl rfl, ret_okj hj (by cbv) ?_ ?_⟩) | (with_reducible apply_assumption -symm -exfalso only [*]))
    all_goals ((try subst y_zN); (try subst y_secN); (try subst y_div16); (try subst y_flB); (try subst y_flC))
    all_goals (try (repeat' first | with_reducible exact obl0 | with_reducible refine obl1 ?_ ?_))
    all_goals (try first | with_reducible exact True.intro | (refine ob_pc hj ?_; (try rw [hj]); first | exact c_LenI _ _ _) | (refine ob_pcn hj ?_; (try rw [hj]); first | exact c_LenI _ _ _) | ((first | refine ob_le hj ?_ | refine ob_lei hj ?_ | refine ob_inb hj ?_ | refine ob_pos hj ?_ | refine ob_ne0 hj ?_ | refine ob_eqb hj ?_); (first | rfl | first | omega | (simp only [hj, std]; split <;> omega) | (simp (disch := omega) only [hj, std, cmpI, cmpB, satB, add64, sub64, ite0, pl0, pl2, pl3, sb0, if_true, if_false, eq_self, hz, m8, q8, r8, hl] <;> omega) | (simp (disch := omega) [hj, std, cmpI, cmpB, satB, add64, sub64, ite0, pl0, pl2, pl3, sb0, if_true, if_false, eq_self, hz, m8, q8, r8, hl] <;> omega))) | (exact rfl) | ((refine ob_ok hj ?_; (try rw [hj]); simp only [std, q8]; exact hok)) | ((simp only [hj, std, q8, r8]; first | done | omega)) | ((refine upd_box ?_ (upd_none (upd_nil _)); simp only [hj, std, q8, r8]; first | done | exact rfl)))
  · rw [decide_eq_false hb] at eB
    rw [eB, if_neg (by simp)] at eC
    rw [eB, eC]
    refine pc_of tok Try.func58 rfl (by rfl) ?_
    obtain ⟨j, hj⟩ : ∃ j : J, j = std Try.prog T := ⟨_, rfl⟩
    have hm : Try.prog.follows .mixedOrders = true := by kernel_rfl
    generalize y_zN : @zN = x_zN at *
    generalize y_secN : @secN = x_secN at *
    generalize y_div16 : @div16 = x_div16 at *
    generalize y_flB : @flB = x_flB at *
    generalize y_flC : @flC = x_flC at *
    (repeat' first | (refine ⟨.inr rfl, ret_oku hj (by cbv) (by cbv) rfl ?_ ?_ (upd_of ?_)⟩) | (refine ⟨.inl rfl, ret_oku hj (by cbv) (by cbv) rfl ?_ ?_ (upd_of ?_)⟩) | ((first | with_reducible refine tr_cut (fun h => ?_) (fun h => ?_) | refine aw_condj (by cbv) (fun h => ?_) (fun h => ?_)) <;> (try simp (disch := omega) only [hj, std, cmpI, cmpB, satB, Bool.not_eq_true, Bool.not_eq_false, decide_eq_true_eq, decide_eq_false_iff_not, beq_iff_eq, bne_iff_ne, bne_eq_false_iff_eq, beq_eq_false_iff_ne, ne_eq, reduceCtorEq, not_true_eq_false, not_false_eq_true, pl0, if_true, cmpS_eq, cmpS_neq, Bool.not_eq_eq_eq_not, Bool.not_true, Bool.not_false, Bool.not_eq_true', hz, m8, add64, sub64] at h) <;> (try (exfalso; omega))) | (with_reducible refine tr_alt (fun h => ?_) ?_ <;> (try (exfalso; omega))) | (with_reducible refine tr_ob ?_ ?_) | (with_reducible refine tr_done ?_) | (with_reducible refine dr_go (by cbv) ?_) | (refine aw_dw1 (id := 3) hj tok hm (bookI1 x_zN x_secN x_div16) [(0, false), (1, false), (2, false), (3, false), (4, false), (5, false), (6, false), (7, false), (8, true), (9, true), (10, true), (11, true), (12, true)] [(13, true)] [0, 1, 2, 3, 4, 5, 6, 7] (by kernel_rfl) (by cbv) ?_) | (refine aw_dw (id := 3) hj tok hm (bookI1 x_zN x_secN x_div16) [(0, false), (1, false), (2, false), (3, false), (4, false), (5, false), (6, false), (7, false), (8, true), (9, true), (10, true), (11, true), (12, true)] [(13, true)] [0, 1, 2, 3, 4, 5, 6, 7] (by kernel_rfl) (by cbv) ?_) | (refine aw_tr hj tok (bookI1 x_zN x_secN x_div16) (by cbv) ?_) | (refine aw_seq fun K hK => ?_) | (refine aw_tr1 hj tok (bookI1 x_zN x_secN x_div16) (by cbv) ?_) | (refine aw_skip ?_) | (refine aw_block ?_) | (refine aw_exit ?_) | (refine aw_ret ⟨.inr rfl, ret_okj hj (by cbv) ?_ ?_⟩) | (refine aw_ret ?_) | (with_reducible refine th_n ?_) | (with_reducible refine th_r ?_) | (with_reducible refine th_x ?_) | (with_reducible refine blk_n ?_) | (with_reducible refine blk_r ?_) | (with_reducible refine blk_x ?_) | (with_reducible refine blk_y rfl ?_) | (refine ⟨.inr rfl, ret_okj hj (by cbv) ?_ ?_⟩) | (refine ⟨.inl rfl, ret_okj hj (by cbv) ?_ ?_⟩) | (with_reducible apply_assumption -symm -exfalso only [*]))
    all_goals ((try subst y_zN); (try subst y_secN); (try subst y_div16); (try subst y_flB); (try subst y_flC))
    all_goals (try (repeat' first | with_reducible exact obl0 | with_reducible refine obl1 ?_ ?_))
    all_goals (try first | with_reducible exact True.intro | (refine ob_pc hj ?_; (try rw [hj]); first | exact c_LenI _ _ _) | (refine ob_pcn hj ?_; (try rw [hj]); first | exact c_LenI _ _ _) | ((first | refine ob_le hj ?_ | refine ob_lei hj ?_ | refine ob_inb hj ?_ | refine ob_pos hj ?_ | refine ob_ne0 hj ?_ | refine ob_eqb hj ?_); (first | rfl | first | omega | (simp only [hj, std]; split <;> omega) | (simp (disch := omega) only [hj, std, cmpI, cmpB, satB, add64, sub64, ite0, pl0, pl2, pl3, sb0, if_true, if_false, eq_self, hz, m8] <;> omega) | (simp (disch := omega) [hj, std, cmpI, cmpB, satB, add64, sub64, ite0, pl0, pl2, pl3, sb0, if_true, if_false, eq_self, hz, m8] <;> omega))) | (exact rfl) | ((refine upd_box ?_ (upd_none (upd_nil _)); rfl)))
theorem pc_RFlip (n : Nat) (cs : List C) (bit : Int) (hl : cs.length = n) (h2 : n ≤ 140737488355328) (hu : ∀ q, q < n → okK (.int .u8) (cellAt cs q)) :
    PC Try.prog T 57 [.v false [.sl n cs], .v false [vI bit]] (ret1 (.own uT n (flC n cs bit))) [] := by
  have eB : flB n bit = decide (0 ≤ bit ∧ bit < 8 * (n : Int)) := rfl
  have eC : flC n cs bit = if flB n bit = true then setC cs (bit / 8).toNat [vU (flV cs bit)] else cs := rfl
  have m8 := mul8 h2
  rcases Decidable.em (0 ≤ bit ∧ bit < 8 * (n : Int)) with hb | hb
  · have q8 := quo8 (i := bit) (by omega) (by omega)
    have r8 := rem8 (i := bit) (by omega)
    rw [decide_eq_true hb] at eB
    rw [eB, if_pos rfl] at eC
    have hok := hu (bit / 8).toNat (by omega)
    rw [eC]
    refine pc_of tok Try.func57 rfl (by rfl) ?_
    obtain ⟨j, hj⟩ : ∃ j : J, j = std Try.prog T := ⟨_, rfl⟩
    have hm : Try.prog.follows .mixedOrders = true := by kernel_rfl
    generalize y_flB : @flB = x_flB at *
    generalize y_flC : @flC = x_flC at *
    (repeat' first | ((first | with_reducible refine tr_cut (fun h => ?_) (fun h => ?_) | refine aw_condj (by cbv) (fun h => ?_) (fun h => ?_)) <;> (try simp (disch := omega) only [hj, std, cmpI, cmpB, satB, Bool.not_eq_true, Bool.not_eq_false, decide_eq_true_eq, decide_eq_false_iff_not, beq_iff_eq, bne_iff_ne, bne_eq_false_iff_eq, beq_eq_false_iff_ne, ne_eq, reduceCtorEq, not_true_eq_false, not_false_eq_true, pl0, if_true, cmpS_eq, cmpS_neq, Bool.not_eq_eq_eq_not, Bool.not_true, Bool.not_false, Bool.not_eq_true', m8, q8, r8, pl2, Nat.zero_add, add64, sub64] at h) <;> (try (exfalso; omega))) | (with_reducible refine tr_alt (fun h => ?_) ?_ <;> (try (exfalso; omega))) | (with_reducible refine tr_ob ?_ ?_) | (with_reducible refine tr_done ?_) | (with_reducible refine dr_go (by cbv) ?_) | (refine aw_dw1 (id := 3) hj tok hm bookI0 [(0, false), (1, false), (2, false), (3, false), (4, false), (5, false), (6, false), (7, false), (8, true), (9, true), (10, true), (11, true), (12, true)] [(13, true)] [0, 1, 2, 3, 4, 5, 6, 7] (by kernel_rfl) (by cbv) ?_) | (refine aw_dw (id := 3) hj tok hm bookI0 [(0, false), (1, false), (2, false), (3, false), (4, false), (5, false), (6, false), (7, false), (8, true), (9, true), (10, true), (11, true), (12, true)] [(13, true)] [0, 1, 2, 3, 4, 5, 6, 7] (by kernel_rfl) (by cbv) ?_) | (refine aw_tr hj tok bookI0 (by cbv) ?_) | (refine aw_seq fun K hK => ?_) | (refine aw_tr1 hj tok bookI0 (by cbv) ?_) | (refine aw_skip ?_) | (refine aw_block ?_) | (refine aw_exit ?_) | (refine aw_ret ⟨.inr rfl, ret_okj hj (by cbv) ?_ ?_⟩) | (refine aw_ret ?_) | (with_reducible refine th_n ?_) | (with_reducible refine th_r ?_) | (with_reducible refine th_x ?_) | (with_reducible refine blk_n ?_) | (with_reducible refine blk_r ?_) | (with_reducible refine blk_x ?_) | (with_reducible refine blk_y rfl ?_) | (refine ⟨.inr rfl, ret_okj hj (by cbv) ?_ ?_⟩) | (refine ⟨.inl rfl, ret_okj hj (by cbv) ?_ ?_⟩) | (with_reducible apply_assumption -symm -exfalso only [*]))
    all_goals ((try subst y_flB); (try subst y_flC))
    all_goals (try (repeat' first | with_reducible exact obl0 | with_reducible refine obl1 ?_ ?_))
    all_goals (try first | with_reducible exact True.intro | ((first | refine ob_le hj ?_ | refine ob_lei hj ?_ | refine ob_inb hj ?_ | refine ob_pos hj ?_ | refine ob_ne0 hj ?_ | refine ob_eqb hj ?_); (first | rfl | first | omega | (simp only [hj, std]; split <;> omega) | (simp (disch := omega) only [hj, std, cmpI, cmpB, satB, add64, sub64, ite0, pl0, pl2, pl3, sb0, if_true, if_false, eq_self, m8, q8, r8, hl, List.nil_append] <;> omega) | (simp (disch := omega) [hj, std, cmpI, cmpB, satB, add64, sub64, ite0, pl0, pl2, pl3, sb0, if_true, if_false, eq_self, m8, q8, r8, hl, List.nil_append] <;> omega))) | (exact rfl) | ((refine ob_ok hj ?_; (try rw [hj]); simp only [std, q8, List.nil_append]; exact hok)) | ((simp only [hj, std, q8, r8, List.nil_append, Nat.zero_add, ite_self, pl0]; first | done | omega)) | ((symm; refine ret1_c (own_eq ?_ ?_); (simp only [hj, std, Nat.zero_add, ite_self, pl0]); (simp only [hj, std, q8, r8, List.nil_append]; first | done | exact rfl))))
  · rw [decide_eq_false hb] at eB
    rw [eB, if_neg (by simp)] at eC
    rw [eC]
    refine pc_of tok Try.func57 rfl (by rfl) ?_
    obtain ⟨j, hj⟩ : ∃ j : J, j = std Try.prog T := ⟨_, rfl⟩
    have hm : Try.prog.follows .mixedOrders = true := by kernel_rfl
    generalize y_flB : @flB = x_flB at *
    generalize y_flC : @flC = x_flC at *
    (repeat' first | ((first | with_reducible refine tr_cut (fun h => ?_) (fun h => ?_) | refine aw_condj (by cbv) (fun h => ?_) (fun h => ?_)) <;> (try simp (disch := omega) only [hj, std, cmpI, cmpB, satB, Bool.not_eq_true, Bool.not_eq_false, decide_eq_true_eq, decide_eq_false_iff_not, beq_iff_eq, bne_iff_ne, bne_eq_false_iff_eq, beq_eq_false_iff_ne, ne_eq, reduceCtorEq, not_true_eq_false, not_false_eq_true, pl0, if_true, cmpS_eq, cmpS_neq, Bool.not_eq_eq_eq_not, Bool.not_true, Bool.not_false, Bool.not_eq_true', m8, pl2, Nat.zero_add, add64, sub64] at h) <;> (try (exfalso; omega))) | (with_reducible refine tr_alt (fun h => ?_) ?_ <;> (try (exfalso; omega))) | (with_reducible refine tr_ob ?_ ?_) | (with_reducible refine tr_done ?_) | (with_reducible refine dr_go (by cbv) ?_) | (refine aw_dw1 (id := 3) hj tok hm bookI0 [(0, false), (1, false), (2, false), (3, false), (4, false), (5, false), (6, false), (7, false), (8, true), (9, true), (10, true), (11, true), (12, true)] [(13, true)] [0, 1, 2, 3, 4, 5, 6, 7] (by kernel_rfl) (by cbv) ?_) | (refine aw_dw (id := 3) hj tok hm bookI0 [(0, false), (1, false), (2, false), (3, false), (4, false), (5, false), (6, false), (7, false), (8, true), (9, true), (10, true), (11, true), (12, true)] [(13, true)] [0, 1, 2, 3, 4, 5, 6, 7] (by kernel_rfl) (by cbv) ?_) | (refine aw_tr hj tok bookI0 (by cbv) ?_) | (refine aw_seq fun K hK => ?_) | (refine aw_tr1 hj tok bookI0 (by cbv) ?_) | (refine aw_skip ?_) | (refine aw_block ?_) | (refine aw_exit ?_) | (refine aw_ret ⟨.inr rfl, ret_okj hj (by cbv) ?_ ?_⟩) | (refine aw_ret ?_) | (with_reducible refine th_n ?_) | (with_reducible refine th_r ?_) | (with_reducible refine th_x ?_) | (with_reducible refine blk_n ?_) | (with_reducible refine blk_r ?_) | (with_reducible refine blk_x ?_) | (with_reducible refine blk_y rfl ?_) | (refine ⟨.inr rfl, ret_okj hj (by cbv) ?_ ?_⟩) | (refine ⟨.inl rfl, ret_okj hj (by cbv) ?_ ?_⟩) | (with_reducible apply_assumption -symm -exfalso only [*]))
    all_goals ((try subst y_flB); (try subst y_flC))
    all_goals (try (repeat' first | with_reducible exact obl0 | with_reducible refine obl1 ?_ ?_))
    all_goals (try first | with_reducible exact True.intro | ((first | refine ob_le hj ?_ | refine ob_lei hj ?_ | refine ob_inb hj ?_ | refine ob_pos hj ?_ | refine ob_ne0 hj ?_ | refine ob_eqb hj ?_); (first | rfl | first | omega | (simp only [hj, std]; split <;> omega) | (simp (disch := omega) only [hj, std, cmpI, cmpB, satB, add64, sub64, ite0, pl0, pl2, pl3, sb0, if_true, if_false, eq_self, m8, hl] <;> omega) | (simp (disch := omega) [hj, std, cmpI, cmpB, satB, add64, sub64, ite0, pl0, pl2, pl3, sb0, if_true, if_false, eq_self, m8, hl] <;> omega))) | ((symm; refine ret1_c (own_eq ?_ ?_); (simp only [hj, std, Nat.zero_add, ite_self, pl0]); (simp only [hj, std, List.nil_append]; first | done | exact rfl))))
/-! ### few acts -/
def fewI (n : Nat) (cs : List C) : Bool := decide (n ≤ 30 ∧ ∀ k, k < n → gn (cellAt cs (k * 4 + 1)) ≤ 100 ∧ gn (cellAt cs (k * 4 + 3)) ≤ 20)
theorem pc_fewI (n : Nat) (cs : List C) (hl : cs.length = n * 4) (hok : ∀ k, k < n → okK .sl (cellAt cs (k * 4 + 1)) ∧ okK .sl (cellAt cs (k * 4 + 3))) :
    PC Try.prog T 19 [.v false [.sl n cs]] (ret1 (.st (vB (fewI n cs)))) [] := by
  have eF : fewI n cs = decide (n ≤ 30 ∧ ∀ k, k < n → gn (cellAt cs (k * 4 + 1)) ≤ 100 ∧ gn (cellAt cs (k * 4 + 3)) ≤ 20) := rfl
  refine pc_of tok Try.func19 rfl (by rfl) ?_
  obtain ⟨j, hj⟩ : ∃ j : J, j = std Try.prog T := ⟨_, rfl⟩
  have hm : Try.prog.follows .mixedOrders = true := by kernel_rfl
  generalize y_fewI : @fewI = x_fewI at *
  (repeat' first | ((first | with_reducible refine tr_cut (fun h => ?_) (fun h => ?_) | refine aw_condj (by cbv) (fun h => ?_) (fun h => ?_)) <;> (try simp (disch := omega) only [hj, std, cmpI, cmpB, satB, Bool.not_eq_true, Bool.not_eq_false, decide_eq_true_eq, decide_eq_false_iff_not, beq_iff_eq, bne_iff_ne, bne_eq_false_iff_eq, beq_eq_false_iff_ne, ne_eq, reduceCtorEq, not_true_eq_false, not_false_eq_true, pl0, if_true, cmpS_eq, cmpS_neq, Bool.not_eq_eq_eq_not, Bool.not_true, Bool.not_false, Bool.not_eq_true', add64, sub64] at h) <;> (try (exfalso; omega))) | (with_reducible refine tr_alt (fun h => ?_) ?_ <;> (try (exfalso; omega))) | (with_reducible refine tr_ob ?_ ?_) | (with_reducible refine tr_done ?_) | (refine aw_tr hj tok bookI0 (by cbv) ?_) | (refine aw_seq fun K hK => ?_) | (refine aw_tr1 hj tok bookI0 (by cbv) ?_) | (refine aw_skip ?_) | (refine aw_block ?_) | (refine aw_exit ?_) | (refine aw_ret ⟨.inr rfl, ret_okj hj (by cbv) ?_ ?_⟩) | (refine aw_ret ?_) | (with_reducible refine th_n ?_) | (with_reducible refine th_r ?_) | (with_reducible refine th_x ?_) | (with_reducible refine blk_n ?_) | (with_reducible refine blk_r ?_) | (with_reducible refine blk_x ?_) | (with_reducible refine blk_y rfl ?_) | (refine ⟨.inr rfl, ret_okj hj (by cbv) ?_ ?_⟩) | (refine ⟨.inl rfl, ret_okj hj (by cbv) ?_ ?_⟩) | ((with_reducible refine ⟨_, by cbv, ?_, ?_⟩)) | (with_reducible apply_assumption -symm -exfalso only [*]))
  all_goals ((try subst y_fewI))
  all_goals (try (repeat' first | with_reducible exact obl0 | with_reducible refine obl1 ?_ ?_))
  all_goals (try first | with_reducible exact True.intro | ((first | refine ob_le hj ?_ | refine ob_lei hj ?_ | refine ob_inb hj ?_ | refine ob_pos hj ?_ | refine ob_ne0 hj ?_ | refine ob_eqb hj ?_); (first | rfl | first | omega | (simp only [hj, std]; split <;> omega) | (simp (disch := omega) only [hj, std, cmpI, cmpB, satB, add64, sub64, ite0, pl0, pl2, pl3, sb0, if_true, if_false, eq_self] <;> omega) | (simp (disch := omega) [hj, std, cmpI, cmpB, satB, add64, sub64, ite0, pl0, pl2, pl3, sb0, if_true, if_false, eq_self] <;> omega))) | ((rw [eF, decide_eq_false (by omega)]; first | done | exact rfl)))
  refine aw_lpj hj [(0, .keep), (3, .keep)] [] (fun (i : Int) => stOf 29 [(0, .one (.c (.sl n cs))), (3, .one (.c (vI i)))] []) (fun (i : Int) => n - i.toNat) (fun (i : Int) => 0 ≤ i ∧ i ≤ n ∧ n ≤ 30 ∧ ∀ k, k < i.toNat → gn (cellAt cs (k * 4 + 1)) ≤ 100 ∧ gn (cellAt cs (k * 4 + 3)) ≤ 20) (_) (by generalize @fewI = x_fewI; cbv) ?_ (fun i hI => ?_)
  · exact ⟨by omega, by omega, by omega, fun k h => absurd h (by simp)⟩
  obtain ⟨i1, i2, i3, hall⟩ := hI
  rcases Decidable.em (i < (n : Int)) with hi | hi
  · obtain ⟨o1, o2⟩ := hok i.toNat (by omega)
    have f1 : (i + 1).toNat = i.toNat + 1 := by omega
    have hno : ¬ (gn (cellAt cs (i.toNat * 4 + 1)) ≤ 100 ∧ gn (cellAt cs (i.toNat * 4 + 3)) ≤ 20) → fewI n cs = false := fun h => by
      rw [eF]; exact decide_eq_false fun hh => h (hh.2 i.toNat (by omega))
    have hyes : (gn (cellAt cs (i.toNat * 4 + 1)) ≤ 100 ∧ gn (cellAt cs (i.toNat * 4 + 3)) ≤ 20) → ∀ k, k < i.toNat + 1 → gn (cellAt cs (k * 4 + 1)) ≤ 100 ∧ gn (cellAt cs (k * 4 + 3)) ≤ 20 := fun h k hk => by
      by_cases e : k = i.toNat
      · subst e; exact h
      · exact hall k (by omega)
    clear hall
    generalize y_fewI : @fewI = x_fewI at *
    (repeat' first | ((first | with_reducible refine tr_cut (fun h => ?_) (fun h => ?_) | refine aw_condj (by cbv) (fun h => ?_) (fun h => ?_)) <;> (try simp (disch := omega) only [hj, std, cmpI, cmpB, satB, Bool.not_eq_true, Bool.not_eq_false, decide_eq_true_eq, decide_eq_false_iff_not, beq_iff_eq, bne_iff_ne, bne_eq_false_iff_eq, beq_eq_false_iff_ne, ne_eq, reduceCtorEq, not_true_eq_false, not_false_eq_true, pl0, if_true, cmpS_eq, cmpS_neq, Bool.not_eq_eq_eq_not, Bool.not_true, Bool.not_false, Bool.not_eq_true', ite0, add64, sub64] at h) <;> (try (exfalso; omega))) | (with_reducible refine tr_alt (fun h => ?_) ?_ <;> (try (exfalso; omega))) | (with_reducible refine tr_ob ?_ ?_) | (with_reducible refine tr_done ?_) | (refine aw_tr hj tok bookI0 (by cbv) ?_) | (refine aw_seq fun K hK => ?_) | (refine aw_tr1 hj tok bookI0 (by cbv) ?_) | (refine aw_skip ?_) | (refine aw_block ?_) | (refine aw_exit ?_) | (refine aw_ret ⟨.inr rfl, ret_okj hj (by cbv) ?_ ?_⟩) | (refine aw_ret ?_) | (with_reducible refine th_n ?_) | (with_reducible refine th_r ?_) | (with_reducible refine th_x ?_) | (with_reducible refine blk_n ?_) | (with_reducible refine blk_r ?_) | (with_reducible refine blk_x ?_) | (with_reducible refine blk_y rfl ?_) | (refine ⟨.inr rfl, ret_okj hj (by cbv) ?_ ?_⟩) | (refine ⟨.inl rfl, ret_okj hj (by cbv) ?_ ?_⟩) | ((with_reducible refine ⟨_, by cbv, ?_, ?_⟩)) | (with_reducible apply_assumption -symm -exfalso only [*]))
    all_goals ((try subst y_fewI))
    all_goals (try (repeat' first | with_reducible exact obl0 | with_reducible refine obl1 ?_ ?_))
    all_goals (try first | with_reducible exact True.intro | ((first | refine ob_le hj ?_ | refine ob_lei hj ?_ | refine ob_inb hj ?_ | refine ob_pos hj ?_ | refine ob_ne0 hj ?_ | refine ob_eqb hj ?_); (first | rfl | first | omega | (simp only [hj, std]; split <;> omega) | (simp (disch := omega) only [hj, std, cmpI, cmpB, satB, add64, sub64, ite0, pl0, pl2, pl3, sb0, if_true, if_false, eq_self, hl] <;> omega) | (simp (disch := omega) [hj, std, cmpI, cmpB, satB, add64, sub64, ite0, pl0, pl2, pl3, sb0, if_true, if_false, eq_self, hl] <;> omega))) | ((refine ob_ok hj ?_; (try rw [hj]); simp only [std, ite0]; first | exact o1 | exact o2)) | ((rw [hno (by omega)]; first | done | exact rfl)) | ((simp (disch := omega) only [hj, std, add64, ite0, f1]; first | omega | exact ⟨by omega, by omega, by omega, hyes (by omega)⟩)))
  · have e : i.toNat = n := by omega
    rw [e] at hall
    generalize y_fewI : @fewI = x_fewI at *
    (repeat' first | ((first | with_reducible refine tr_cut (fun h => ?_) (fun h => ?_) | refine aw_condj (by cbv) (fun h => ?_) (fun h => ?_)) <;> (try simp (disch := omega) only [hj, std, cmpI, cmpB, satB, Bool.not_eq_true, Bool.not_eq_false, decide_eq_true_eq, decide_eq_false_iff_not, beq_iff_eq, bne_iff_ne, bne_eq_false_iff_eq, beq_eq_false_iff_ne, ne_eq, reduceCtorEq, not_true_eq_false, not_false_eq_true, pl0, if_true, cmpS_eq, cmpS_neq, Bool.not_eq_eq_eq_not, Bool.not_true, Bool.not_false, Bool.not_eq_true', add64, sub64] at h) <;> (try (exfalso; omega))) | (with_reducible refine tr_alt (fun h => ?_) ?_ <;> (try (exfalso; omega))) | (with_reducible refine tr_ob ?_ ?_) | (with_reducible refine tr_done ?_) | (refine aw_tr hj tok bookI0 (by cbv) ?_) | (refine aw_seq fun K hK => ?_) | (refine aw_tr1 hj tok bookI0 (by cbv) ?_) | (refine aw_skip ?_) | (refine aw_block ?_) | (refine aw_exit ?_) | (refine aw_ret ⟨.inr rfl, ret_okj hj (by cbv) ?_ ?_⟩) | (refine aw_ret ?_) | (with_reducible refine th_n ?_) | (with_reducible refine th_r ?_) | (with_reducible refine th_x ?_) | (with_reducible refine blk_n ?_) | (with_reducible refine blk_r ?_) | (with_reducible refine blk_x ?_) | (with_reducible refine blk_y rfl ?_) | (refine ⟨.inr rfl, ret_okj hj (by cbv) ?_ ?_⟩) | (refine ⟨.inl rfl, ret_okj hj (by cbv) ?_ ?_⟩) | ((with_reducible refine ⟨_, by cbv, ?_, ?_⟩)) | (with_reducible apply_assumption -symm -exfalso only [*]))
    all_goals ((try subst y_fewI))
    all_goals (try (repeat' first | with_reducible exact obl0 | with_reducible refine obl1 ?_ ?_))
    all_goals (try first | with_reducible exact True.intro | ((first | refine ob_le hj ?_ | refine ob_lei hj ?_ | refine ob_inb hj ?_ | refine ob_pos hj ?_ | refine ob_ne0 hj ?_ | refine ob_eqb hj ?_); (first | rfl | first | omega | (simp only [hj, std]; split <;> omega) | (simp (disch := omega) only [hj, std, cmpI, cmpB, satB, add64, sub64, ite0, pl0, pl2, pl3, sb0, if_true, if_false, eq_self] <;> omega) | (simp (disch := omega) [hj, std, cmpI, cmpB, satB, add64, sub64, ite0, pl0, pl2, pl3, sb0, if_true, if_false, eq_self] <;> omega))) | ((rw [eF, decide_eq_true ⟨i3, hall⟩]; first | done | exact rfl)))
end Go.Proofs.Ytnmlcfjljeccnaa.A
/- Layer 8: what an act does. -/
set_option linter.unusedSimpArgs false
set_option linter.unusedVariables false
set_option maxRecDepth 100000
set_option maxHeartbeats 4000000
namespace Go.Proofs.Ytnmlcfjljeccnaa.A
open Go
theorem c_RSec (n s : Nat) (cs ds : List C) (h1 : s ≤ n) (h2 : n ≤ 140737488355328) : pc 27 [.v true [.sl n cs, .sl s ds]] (ret1 (.st (vI (secN (zN n) (zN s))))) := ⟨enters Try.func27 (by kernel_rfl) (by kernel_rfl), pc_RSec n s cs ds h1 h2⟩
theorem c_RCrash (n s kn : Nat) (cs ds ks : List C) (sz : Int) (h1 : s ≤ n) (h2 : n ≤ 140737488355328) (hl : cs.length = n) (hd : ds = cs.take s) (hk : ks.length = kn) (hk2 : kn ≤ 140737488355328) (hu : ∀ q, q < n → okK (.int .u8) (cellAt cs q)) (hks : ∀ q, q < kn → okK (.int .i64) (cellAt ks q)) :
    pc 55 [.v true [.sl n cs, .sl s ds], .v false [vI sz], .v false [.sl kn ks]] (ret1 (.own uT (crN n (zN s) sz) (crC n (zN s) sz cs ks))) := ⟨enters Try.func55 (by kernel_rfl) (by kernel_rfl), pc_RCrash n s kn cs ds ks sz h1 h2 hl hd hk hk2 hu hks⟩
theorem c_RFlip (n : Nat) (cs : List C) (bit : Int) (hl : cs.length = n) (h2 : n ≤ 140737488355328) (hu : ∀ q, q < n → okK (.int .u8) (cellAt cs q)) : pc 57 [.v false [.sl n cs], .v false [vI bit]] (ret1 (.own uT n (flC n cs bit))) := ⟨enters Try.func57 (by kernel_rfl) (by kernel_rfl), pc_RFlip n cs bit hl h2 hu⟩
theorem c_CrashI (n kn : Nat) (cs ks : List C) (s sz : Int) (h0 : 0 ≤ s) (h1 : s ≤ n) (h2 : n ≤ 140737488355328) (hl : cs.length = n) (hk : ks.length = kn) (hk2 : kn ≤ 140737488355328) (hv : ∀ c ∈ cs, ∃ v, c = .val v) (hks : ∀ q, q < kn → okK (.int .i64) (cellAt ks q)) :
    (std Try.prog T).pc 53 [.root (iBox n cs s), .v false [vI sz], .v false [.sl kn ks]] (ret1 (.st (vI (crK n kn s sz)))) [iBox (crN n s sz) (crC n s sz cs ks) (zN (crN n s sz)), .none, .none] := ⟨enters Try.func53 (by kernel_rfl) (by kernel_rfl), pc_CrashI n kn cs ks s sz h0 h1 h2 hl hk hk2 hv hks⟩
theorem c_FlipI (n : Nat) (cs : List C) (s bit : Int) (hl : cs.length = n) (h2 : n ≤ 140737488355328) (hu : ∀ q, q < n → okK (.int .u8) (cellAt cs q)) : (std Try.prog T).pc 58 [.root (iBox n cs s), .v false [vI bit]] (ret1 (.st (vB (flB n bit)))) [iBox n (flC n cs bit) s, .none] := ⟨enters Try.func58 (by kernel_rfl) (by kernel_rfl), pc_FlipI n cs s bit hl h2 hu⟩
def plN (n m : Nat) : Nat := n + m
def apC (a b : List C) : List C := a ++ b
def bookI2 (x_zN : Nat → Int) (x_secN : Int → Int → Int) (x_crN : Nat → Int → Int → Nat) (x_crC : Nat → Int → Int → List C → List C → List C) (x_crK : Nat → Nat → Int → Int → Int) (x_flB : Nat → Int → Bool) (x_flC : Nat → List C → Int → List C) (x_plN : Nat → Nat → Nat) (x_apC : List C → List C → List C) : Book := fun f xs => match f, xs with
  | 27, [.v true [.sl n _, .sl s _]] => some (ret1 (.st (vI (x_secN (x_zN n) (x_zN s)))))
  | 55, [.v true [.sl n cs, .sl s _], .v false [.val (.int _ sz)], .v false [.sl kn ks]] => some (ret1 (.own uT (x_crN n (x_zN s) sz) (x_crC n (x_zN s) sz cs ks)))
  | 57, [.v false [.sl n cs], .v false [.val (.int _ bit)]] => some (ret1 (.own uT n (x_flC n cs bit)))
  | 54, [.root (.box [.own _ n cs, .st (.val (.int _ _))])] => some (⟨true, []⟩, [.box [.own uT n cs, .st (vI (x_zN n))]])
  | 52, [.root (.box [.own _ n cs, .st (.val (.int _ s))]), .v false [.sl m es]] => some (ret1 (.st (vB true)), [.box [.own uT (x_plN n m) (x_apC cs es), .st (vI s)], .none])
  | 53, [.root (.box [.own _ n cs, .st (.val (.int _ s))]), .v false [.val (.int _ sz)], .v false [.sl kn ks]] => some (ret1 (.st (vI (x_crK n kn s sz))), [.box [.own uT (x_crN n s sz) (x_crC n s sz cs ks), .st (vI (x_zN (x_crN n s sz)))], .none, .none])
  | 58, [.root (.box [.own _ n cs, .st (.val (.int _ s))]), .v false [.val (.int _ bit)]] => some (ret1 (.st (vB (x_flB n bit))), [.box [.own uT n (x_flC n cs bit), .st (vI s)], .none])
  | 56, [.v true [.sl n _, .sl s _], .v true [_, _, .val (.int _ an), .sl kn _]] => some (ret1 (.st (vI (x_crK n kn (x_zN s) an))))
  | _, _ => none
theorem crC_vals {n : Nat} {s sz : Int} {cs ks : List C} (hm : crN n s sz ≤ cs.length) (hv : ∀ c ∈ cs, ∃ v, c = .val v) : ∀ c ∈ crC n s sz cs ks, ∃ v, c = .val v := by
  intro c hc
  obtain ⟨q, hq, rfl⟩ := List.mem_map.1 hc
  have hq := List.mem_range.1 hq
  unfold crAt; split
  · exact ⟨_, rfl⟩
  · exact cell_val hv (by omega)
theorem u8_vals {n : Nat} {cs : List C} (hl : cs.length = n) (hu : ∀ q, q < n → okK (.int .u8) (cellAt cs q)) : ∀ c ∈ cs, ∃ v, c = .val v := by
  intro c hc
  obtain ⟨q, hq, rfl⟩ := List.mem_iff_getElem.1 hc
  obtain ⟨v, hv⟩ := hu q (by omega)
  unfold cellAt at hv
  rw [List.getD_eq_getElem?_getD, List.getElem?_eq_getElem hq] at hv
  exact ⟨_, hv⟩
theorem pc_taken (n s bn kn : Nat) (cs ds bs ks : List C) (kd an : Int) (h1 : s ≤ n) (h2 : n ≤ 140737488355328) (hl : cs.length = n) (hd : ds = cs.take s) (hk : ks.length = kn) (hk2 : kn ≤ 140737488355328) (hu : ∀ q, q < n → okK (.int .u8) (cellAt cs q)) (hks : ∀ q, q < kn → okK (.int .i64) (cellAt ks q)) :
    PC Try.prog T 56 [.v true [.sl n cs, .sl s ds], .v true [vI kd, .sl bn bs, vI an, .sl kn ks]] (ret1 (.st (vI (crK n kn (zN s) an)))) [] := by
  have hz := zN_eq s
  obtain ⟨m0, m1⟩ := crN_le (n := n) (s := zN s) (sz := an) (by omega) (by omega)
  have eCK : crK n kn (zN s) an = if (kn : Int) < secN (zN (crN n (zN s) an)) (zN s) then (kn : Int) else secN (zN (crN n (zN s) an)) (zN s) := rfl
  refine pc_of tok Try.func56 rfl (by rfl) ?_
  obtain ⟨j, hj⟩ : ∃ j : J, j = std Try.prog T := ⟨_, rfl⟩
  have hm : Try.prog.follows .mixedOrders = true := by kernel_rfl
  generalize y_zN : @zN = x_zN at *
  generalize y_secN : @secN = x_secN at *
  generalize y_crN : @crN = x_crN at *
  generalize y_crC : @crC = x_crC at *
  generalize y_crK : @crK = x_crK at *
  generalize y_flB : @flB = x_flB at *
  generalize y_flC : @flC = x_flC at *
  generalize y_plN : @plN = x_plN at *
  generalize y_apC : @apC = x_apC at *
  (repeat' first | ((first | with_reducible refine tr_cut (fun h => ?_) (fun h => ?_) | refine aw_condj (by cbv) (fun h => ?_) (fun h => ?_)) <;> (try simp (disch := omega) only [hj, std, cmpI, cmpB, satB, Bool.not_eq_true, Bool.not_eq_false, decide_eq_true_eq, decide_eq_false_iff_not, beq_iff_eq, bne_iff_ne, bne_eq_false_iff_eq, beq_eq_false_iff_ne, ne_eq, reduceCtorEq, not_true_eq_false, not_false_eq_true, pl0, if_true, cmpS_eq, cmpS_neq, Bool.not_eq_eq_eq_not, Bool.not_true, Bool.not_false, Bool.not_eq_true', add64, sub64] at h) <;> (try (exfalso; omega))) | (with_reducible refine tr_alt (fun h => ?_) ?_ <;> (try (exfalso; omega))) | (with_reducible refine tr_ob ?_ ?_) | (with_reducible refine tr_done ?_) | (refine aw_tr hj tok (bookI2 x_zN x_secN x_crN x_crC x_crK x_flB x_flC x_plN x_apC) (by cbv) ?_) | (refine aw_seq fun K hK => ?_) | (refine aw_tr1 hj tok (bookI2 x_zN x_secN x_crN x_crC x_crK x_flB x_flC x_plN x_apC) (by cbv) ?_) | (refine aw_skip ?_) | (refine aw_block ?_) | (refine aw_exit ?_) | (refine aw_ret ⟨.inr rfl, ret_okj hj (by cbv) ?_ ?_⟩) | (refine aw_ret ?_) | (with_reducible refine th_n ?_) | (with_reducible refine th_r ?_) | (with_reducible refine th_x ?_) | (with_reducible refine blk_n ?_) | (with_reducible refine blk_r ?_) | (with_reducible refine blk_x ?_) | (with_reducible refine blk_y rfl ?_) | (refine ⟨.inr rfl, ret_okj hj (by cbv) ?_ ?_⟩) | (refine ⟨.inl rfl, ret_okj hj (by cbv) ?_ ?_⟩) | (with_reducible apply_assumption -symm -exfalso only [*]))
  all_goals ((try subst y_zN); (try subst y_secN); (try subst y_crN); (try subst y_crC); (try subst y_crK); (try subst y_flB); (try subst y_flC); (try subst y_plN); (try subst y_apC))
  all_goals (try (repeat' first | with_reducible exact obl0 | with_reducible refine obl1 ?_ ?_))
  all_goals (try first | with_reducible exact True.intro | (refine ob_pc hj ?_; (try rw [hj]); first | exact c_RCrash _ _ _ _ _ _ _ h1 h2 hl hd hk hk2 hu hks | exact c_RSec _ _ _ _ (by omega) (by omega)) | (refine ob_pcn hj ?_; (try rw [hj]); first | exact c_RCrash _ _ _ _ _ _ _ h1 h2 hl hd hk hk2 hu hks | exact c_RSec _ _ _ _ (by omega) (by omega)) | ((first | refine ob_le hj ?_ | refine ob_lei hj ?_ | refine ob_inb hj ?_ | refine ob_pos hj ?_ | refine ob_ne0 hj ?_ | refine ob_eqb hj ?_); (first | rfl | first | omega | (simp only [hj, std]; split <;> omega) | (simp (disch := omega) only [hj, std, cmpI, cmpB, satB, add64, sub64, ite0, pl0, pl2, pl3, sb0, if_true, if_false, eq_self] <;> omega) | (simp (disch := omega) [hj, std, cmpI, cmpB, satB, add64, sub64, ite0, pl0, pl2, pl3, sb0, if_true, if_false, eq_self] <;> omega))) | ((refine ob_vals hj ?_; exact crC_vals (by omega) (u8_vals hl hu))) | ((rw [eCK, if_pos (by omega), hj]; first | done | exact rfl)) | ((rw [eCK, if_neg (by omega)]; first | done | exact rfl)))
/-! ### what an act does with the program's file and with the reference's -/
def doN (n : Nat) (s kd : Int) (bn : Nat) (an : Int) : Nat := if kd = 0 then n + bn else if kd = 1 then n else if kd = 2 then crN n s an else n
def doC (n : Nat) (s kd : Int) (cs bs ks : List C) (an : Int) : List C := if kd = 0 then cs ++ bs else if kd = 1 then cs else if kd = 2 then crC n s an cs ks else flC n cs an
def doS (n s : Nat) (kd an : Int) : Nat := if kd = 0 then s else if kd = 1 then n else if kd = 2 then crN n s an else s
def tkC (cs : List C) (s : Nat) : List C := cs.take s
theorem rets_file {n n' s s' : Nat} {c c' d d' : List C} {b : Bool} (h1 : n' = n) (h2 : c' = c) (h3 : s' = s) (h4 : d' = d) (h5 : b = true) : rets [(true, [.st (.sl n c), .st (.sl s d)]), (false, [.st (vB true)])] = ⟨true, [(true, [.st (.sl n' c'), .st (.sl s' d')]), (false, [.st (vB b)])]⟩ := by subst h1; subst h2; subst h3; subst h4; subst h5; rfl
theorem pc_do0 (n s bn kn : Nat) (cs ds bs ks : List C) (an : Int) (h1 : s ≤ n) (h2 : n + bn ≤ 1048576) (hl : cs.length = n) (hd : ds = cs.take s) (hb : bs.length = bn) (hv : ∀ c ∈ cs, ∃ v, c = .val v) (hvb : ∀ c ∈ bs, ∃ v, c = .val v) :
    PC Try.prog T 22 [.root (iBox n cs (zN s)), .v true [.sl n cs, .sl s ds], .v true [vI 0, .sl bn bs, vI an, .sl kn ks]] (rets [(true, [.st (.sl (n + bn) (cs ++ bs)), .st (.sl s ((cs ++ bs).take s))]), (false, [.st (vB true)])]) [iBox (n + bn) (cs ++ bs) (zN s), .none, .none] := by
  have e1 : (cs ++ bs).take s = ds := by rw [hd, List.take_append_of_le_length (by omega)]
  have cA : (std Try.prog T).pc 52 [.root (iBox n cs (zN s)), .v false [.sl bn bs]] (ret1 (.st (vB true))) [iBox (plN n bn) (apC cs bs) (zN s), .none] := c_AppendI n bn cs bs (zN s) hb h2
  have hva : ∀ c ∈ apC cs bs, ∃ v, c = .val v := fun c hc => (List.mem_append.1 hc).elim (hv c) (hvb c)
  rw [e1]
  have e0 : gi (cellAt [vI 0, .sl bn bs, vI an, .sl kn ks] 0) = 0 := rfl
  have hz := zN_eq s
  refine pc_of tok Try.func22 rfl (by rfl) ?_
  obtain ⟨j, hj⟩ : ∃ j : J, j = std Try.prog T := ⟨_, rfl⟩
  have hm : Try.prog.follows .mixedOrders = true := by kernel_rfl
  generalize y_zN : @zN = x_zN at *
  generalize y_secN : @secN = x_secN at *
  generalize y_crN : @crN = x_crN at *
  generalize y_crC : @crC = x_crC at *
  generalize y_crK : @crK = x_crK at *
  generalize y_flB : @flB = x_flB at *
  generalize y_flC : @flC = x_flC at *
  generalize y_plN : @plN = x_plN at *
  generalize y_apC : @apC = x_apC at *
  (repeat' first | (with_reducible refine aw_at (id := 1) ?_) | (with_reducible refine aw_at2 (id := 1) ?_) | ((first | with_reducible refine tr_cut (fun h => ?_) (fun h => ?_) | refine aw_condj (by cbv) (fun h => ?_) (fun h => ?_)) <;> (try simp (disch := omega) only [hj, std, cmpI, cmpB, satB, Bool.not_eq_true, Bool.not_eq_false, decide_eq_true_eq, decide_eq_false_iff_not, beq_iff_eq, bne_iff_ne, bne_eq_false_iff_eq, beq_eq_false_iff_ne, ne_eq, reduceCtorEq, not_true_eq_false, not_false_eq_true, pl0, if_true, cmpS_eq, cmpS_neq, Bool.not_eq_eq_eq_not, Bool.not_true, Bool.not_false, Bool.not_eq_true', add64, sub64] at h) <;> (try (exfalso; omega))) | (with_reducible refine tr_alt (fun h => ?_) ?_ <;> (try (exfalso; omega))) | (with_reducible refine tr_ob ?_ ?_) | (with_reducible refine tr_done ?_) | (refine aw_tr hj tok (bookI2 x_zN x_secN x_crN x_crC x_crK x_flB x_flC x_plN x_apC) (by cbv) ?_) | (refine aw_seq fun K hK => ?_) | (refine aw_tr1 hj tok (bookI2 x_zN x_secN x_crN x_crC x_crK x_flB x_flC x_plN x_apC) (by cbv) ?_) | (refine aw_skip ?_) | (refine aw_block ?_) | (refine aw_exit ?_) | (refine aw_ret ⟨.inr rfl, ret_okj hj (by cbv) ?_ ?_⟩) | (refine aw_ret ?_) | (with_reducible refine th_n ?_) | (with_reducible refine th_r ?_) | (with_reducible refine th_x ?_) | (with_reducible refine blk_n ?_) | (with_reducible refine blk_r ?_) | (with_reducible refine blk_x ?_) | (with_reducible refine blk_y rfl ?_) | (refine ⟨.inr rfl, ret_okj hj (by cbv) ?_ ?_⟩) | (refine ⟨.inl rfl, ret_okj hj (by cbv) ?_ ?_⟩) | (with_reducible apply_assumption -symm -exfalso only [*]))
  all_goals ((try subst y_zN); (try subst y_secN); (try subst y_crN); (try subst y_crC); (try subst y_crK); (try subst y_flB); (try subst y_flC); (try subst y_plN); (try subst y_apC))
  refine stop_go ?_
  refine aw_frz 4 (by cbv) ?_
  refine aw_frz 5 (by cbv) ?_
  generalize y_zN : @zN = x_zN at *
  generalize y_secN : @secN = x_secN at *
  generalize y_crN : @crN = x_crN at *
  generalize y_crC : @crC = x_crC at *
  generalize y_crK : @crK = x_crK at *
  generalize y_flB : @flB = x_flB at *
  generalize y_flC : @flC = x_flC at *
  generalize y_plN : @plN = x_plN at *
  generalize y_apC : @apC = x_apC at *
  (repeat' first | (refine aw_retf hj [(6, .keep), (7, .keep), (6, .bfz 0), (6, .bfz 1)] [6] (by cbv) ?_) | (refine ⟨.inr rfl, ret_oku hj (by cbv) (by cbv) rfl ?_ ?_ (upd_of ?_)⟩) | (refine ⟨.inl rfl, ret_oku hj (by cbv) (by cbv) rfl ?_ ?_ (upd_of ?_)⟩) | ((first | with_reducible refine tr_cut (fun h => ?_) (fun h => ?_) | refine aw_condj (by cbv) (fun h => ?_) (fun h => ?_)) <;> (try simp (disch := omega) only [hj, std, cmpI, cmpB, satB, Bool.not_eq_true, Bool.not_eq_false, decide_eq_true_eq, decide_eq_false_iff_not, beq_iff_eq, bne_iff_ne, bne_eq_false_iff_eq, beq_eq_false_iff_ne, ne_eq, reduceCtorEq, not_true_eq_false, not_false_eq_true, pl0, if_true, cmpS_eq, cmpS_neq, Bool.not_eq_eq_eq_not, Bool.not_true, Bool.not_false, Bool.not_eq_true', e0, add64, sub64] at h) <;> (try (exfalso; omega))) | (with_reducible refine tr_alt (fun h => ?_) ?_ <;> (try (exfalso; omega))) | (with_reducible refine tr_ob ?_ ?_) | (with_reducible refine tr_done ?_) | (refine aw_dc1 (id := 2) hj tok hm (bookI2 x_zN x_secN x_crN x_crC x_crK x_flB x_flC x_plN x_apC) [1, 2, 4, 5, 7, 8, 10, 11, 12] (.last 0 (.last 3 (.last 6 (.take 9 (.last 13 (.last 14 (.take 15 .done))))))) (by kernel_rfl) (by cbv) ?_) | (refine aw_dc (id := 2) hj tok hm (bookI2 x_zN x_secN x_crN x_crC x_crK x_flB x_flC x_plN x_apC) [1, 2, 4, 5, 7, 8, 10, 11, 12] (.last 0 (.last 3 (.last 6 (.take 9 (.last 13 (.last 14 (.take 15 .done))))))) (by kernel_rfl) (by cbv) ?_) | (refine aw_tr hj tok (bookI2 x_zN x_secN x_crN x_crC x_crK x_flB x_flC x_plN x_apC) (by cbv) ?_) | (refine aw_seq fun K hK => ?_) | (refine aw_tr1 hj tok (bookI2 x_zN x_secN x_crN x_crC x_crK x_flB x_flC x_plN x_apC) (by cbv) ?_) | (refine aw_skip ?_) | (refine aw_block ?_) | (refine aw_exit ?_) | (refine aw_ret ⟨.inr rfl, ret_okj hj (by cbv) ?_ ?_⟩) | (refine aw_ret ?_) | (with_reducible refine th_n ?_) | (with_reducible refine th_r ?_) | (with_reducible refine th_x ?_) | (with_reducible refine blk_n ?_) | (with_reducible refine blk_r ?_) | (with_reducible refine blk_x ?_) | (with_reducible refine blk_y rfl ?_) | (refine ⟨.inr rfl, ret_okj hj (by cbv) ?_ ?_⟩) | (refine ⟨.inl rfl, ret_okj hj (by cbv) ?_ ?_⟩) | (with_reducible apply_assumption -symm -exfalso only [*]))
  all_goals ((try subst y_zN); (try subst y_secN); (try subst y_crN); (try subst y_crC); (try subst y_crK); (try subst y_flB); (try subst y_flC); (try subst y_plN); (try subst y_apC))
  all_goals (try (repeat' first | with_reducible exact obl0 | with_reducible refine obl1 ?_ ?_))
  all_goals (try first | with_reducible exact True.intro | (refine ob_pc hj ?_; (try rw [hj]); first | exact cA) | (refine ob_pcn hj ?_; (try rw [hj]); first | exact cA) | ((first | refine ob_le hj ?_ | refine ob_lei hj ?_ | refine ob_inb hj ?_ | refine ob_pos hj ?_ | refine ob_ne0 hj ?_ | refine ob_eqb hj ?_); (first | rfl | first | omega | (simp only [hj, std]; split <;> omega) | (simp (disch := omega) only [hj, std, cmpI, cmpB, satB, add64, sub64, ite0, pl0, pl2, pl3, sb0, if_true, if_false, eq_self, hl, hb] <;> omega) | (simp (disch := omega) [hj, std, cmpI, cmpB, satB, add64, sub64, ite0, pl0, pl2, pl3, sb0, if_true, if_false, eq_self, hl, hb] <;> omega))) | ((refine upd_box ?_ (upd_none (upd_none (upd_nil _))); (try rw [hj]); rfl)) | ((refine ob_ok hj ?_; (try rw [hj]); first | exact .inr ⟨_, _, rfl⟩ | exact ⟨_, rfl⟩)) | ((refine ob_vals hj ?_; (try rw [hj]); exact hva)) | ((rw [hj]; simp only [std, List.nil_append, pl2, pl3, ite_self, pl0, Nat.zero_add, if_true]; first | done | exact rfl)) | ((simp only [hj, std, List.nil_append, pl2, pl3, ite_self, pl0, Nat.zero_add, if_true, cellAt, List.getD_cons_zero, List.getD_cons_succ, gn, gc, gi]; first | done | omega)))
theorem pc_do1 (n s bn kn : Nat) (cs ds bs ks : List C) (an : Int) (hl : cs.length = n) (hv : ∀ c ∈ cs, ∃ v, c = .val v) :
    PC Try.prog T 22 [.root (iBox n cs (zN s)), .v true [.sl n cs, .sl s ds], .v true [vI 1, .sl bn bs, vI an, .sl kn ks]] (rets [(true, [.st (.sl n (cs)), .st (.sl n (cs.take n))]), (false, [.st (vB true)])]) [iBox n (cs) (zN n), .none, .none] := by
  have e1 : cs.take n = cs := List.take_of_length_le (by omega)
  rw [e1]
  have e0 : gi (cellAt [vI 1, .sl bn bs, vI an, .sl kn ks] 0) = 1 := rfl
  have hz := zN_eq s
  refine pc_of tok Try.func22 rfl (by rfl) ?_
  obtain ⟨j, hj⟩ : ∃ j : J, j = std Try.prog T := ⟨_, rfl⟩
  have hm : Try.prog.follows .mixedOrders = true := by kernel_rfl
  generalize y_zN : @zN = x_zN at *
  generalize y_secN : @secN = x_secN at *
  generalize y_crN : @crN = x_crN at *
  generalize y_crC : @crC = x_crC at *
  generalize y_crK : @crK = x_crK at *
  generalize y_flB : @flB = x_flB at *
  generalize y_flC : @flC = x_flC at *
  generalize y_plN : @plN = x_plN at *
  generalize y_apC : @apC = x_apC at *
  (repeat' first | (with_reducible refine aw_at (id := 1) ?_) | (with_reducible refine aw_at2 (id := 1) ?_) | ((first | with_reducible refine tr_cut (fun h => ?_) (fun h => ?_) | refine aw_condj (by cbv) (fun h => ?_) (fun h => ?_)) <;> (try simp (disch := omega) only [hj, std, cmpI, cmpB, satB, Bool.not_eq_true, Bool.not_eq_false, decide_eq_true_eq, decide_eq_false_iff_not, beq_iff_eq, bne_iff_ne, bne_eq_false_iff_eq, beq_eq_false_iff_ne, ne_eq, reduceCtorEq, not_true_eq_false, not_false_eq_true, pl0, if_true, cmpS_eq, cmpS_neq, Bool.not_eq_eq_eq_not, Bool.not_true, Bool.not_false, Bool.not_eq_true', add64, sub64] at h) <;> (try (exfalso; omega))) | (with_reducible refine tr_alt (fun h => ?_) ?_ <;> (try (exfalso; omega))) | (with_reducible refine tr_ob ?_ ?_) | (with_reducible refine tr_done ?_) | (refine aw_tr hj tok (bookI2 x_zN x_secN x_crN x_crC x_crK x_flB x_flC x_plN x_apC) (by cbv) ?_) | (refine aw_seq fun K hK => ?_) | (refine aw_tr1 hj tok (bookI2 x_zN x_secN x_crN x_crC x_crK x_flB x_flC x_plN x_apC) (by cbv) ?_) | (refine aw_skip ?_) | (refine aw_block ?_) | (refine aw_exit ?_) | (refine aw_ret ⟨.inr rfl, ret_okj hj (by cbv) ?_ ?_⟩) | (refine aw_ret ?_) | (with_reducible refine th_n ?_) | (with_reducible refine th_r ?_) | (with_reducible refine th_x ?_) | (with_reducible refine blk_n ?_) | (with_reducible refine blk_r ?_) | (with_reducible refine blk_x ?_) | (with_reducible refine blk_y rfl ?_) | (refine ⟨.inr rfl, ret_okj hj (by cbv) ?_ ?_⟩) | (refine ⟨.inl rfl, ret_okj hj (by cbv) ?_ ?_⟩) | (with_reducible apply_assumption -symm -exfalso only [*]))
  all_goals ((try subst y_zN); (try subst y_secN); (try subst y_crN); (try subst y_crC); (try subst y_crK); (try subst y_flB); (try subst y_flC); (try subst y_plN); (try subst y_apC))
  refine stop_go ?_
  refine aw_frz 4 (by cbv) ?_
  refine aw_frz 5 (by cbv) ?_
  generalize y_zN : @zN = x_zN at *
  generalize y_secN : @secN = x_secN at *
  generalize y_crN : @crN = x_crN at *
  generalize y_crC : @crC = x_crC at *
  generalize y_crK : @crK = x_crK at *
  generalize y_flB : @flB = x_flB at *
  generalize y_flC : @flC = x_flC at *
  generalize y_plN : @plN = x_plN at *
  generalize y_apC : @apC = x_apC at *
  (repeat' first | (refine aw_retf hj [(6, .keep), (7, .keep), (6, .bfz 0), (6, .bfz 1)] [6] (by cbv) ?_) | (refine ⟨.inr rfl, ret_oku hj (by cbv) (by cbv) rfl ?_ ?_ (upd_of ?_)⟩) | (refine ⟨.inl rfl, ret_oku hj (by cbv) (by cbv) rfl ?_ ?_ (upd_of ?_)⟩) | ((first | with_reducible refine tr_cut (fun h => ?_) (fun h => ?_) | refine aw_condj (by cbv) (fun h => ?_) (fun h => ?_)) <;> (try simp (disch := omega) only [hj, std, cmpI, cmpB, satB, Bool.not_eq_true, Bool.not_eq_false, decide_eq_true_eq, decide_eq_false_iff_not, beq_iff_eq, bne_iff_ne, bne_eq_false_iff_eq, beq_eq_false_iff_ne, ne_eq, reduceCtorEq, not_true_eq_false, not_false_eq_true, pl0, if_true, cmpS_eq, cmpS_neq, Bool.not_eq_eq_eq_not, Bool.not_true, Bool.not_false, Bool.not_eq_true', e0, add64, sub64] at h) <;> (try (exfalso; omega))) | (with_reducible refine tr_alt (fun h => ?_) ?_ <;> (try (exfalso; omega))) | (with_reducible refine tr_ob ?_ ?_) | (with_reducible refine tr_done ?_) | (refine aw_dc1 (id := 2) hj tok hm (bookI2 x_zN x_secN x_crN x_crC x_crK x_flB x_flC x_plN x_apC) [1, 2, 4, 5, 7, 8, 10, 11, 12] (.last 0 (.last 3 (.last 6 (.take 9 (.last 13 (.last 14 (.take 15 .done))))))) (by kernel_rfl) (by cbv) ?_) | (refine aw_dc (id := 2) hj tok hm (bookI2 x_zN x_secN x_crN x_crC x_crK x_flB x_flC x_plN x_apC) [1, 2, 4, 5, 7, 8, 10, 11, 12] (.last 0 (.last 3 (.last 6 (.take 9 (.last 13 (.last 14 (.take 15 .done))))))) (by kernel_rfl) (by cbv) ?_) | (refine aw_tr hj tok (bookI2 x_zN x_secN x_crN x_crC x_crK x_flB x_flC x_plN x_apC) (by cbv) ?_) | (refine aw_seq fun K hK => ?_) | (refine aw_tr1 hj tok (bookI2 x_zN x_secN x_crN x_crC x_crK x_flB x_flC x_plN x_apC) (by cbv) ?_) | (refine aw_skip ?_) | (refine aw_block ?_) | (refine aw_exit ?_) | (refine aw_ret ⟨.inr rfl, ret_okj hj (by cbv) ?_ ?_⟩) | (refine aw_ret ?_) | (with_reducible refine th_n ?_) | (with_reducible refine th_r ?_) | (with_reducible refine th_x ?_) | (with_reducible refine blk_n ?_) | (with_reducible refine blk_r ?_) | (with_reducible refine blk_x ?_) | (with_reducible refine blk_y rfl ?_) | (refine ⟨.inr rfl, ret_okj hj (by cbv) ?_ ?_⟩) | (refine ⟨.inl rfl, ret_okj hj (by cbv) ?_ ?_⟩) | (with_reducible apply_assumption -symm -exfalso only [*]))
  all_goals ((try subst y_zN); (try subst y_secN); (try subst y_crN); (try subst y_crC); (try subst y_crK); (try subst y_flB); (try subst y_flC); (try subst y_plN); (try subst y_apC))
  all_goals (try (repeat' first | with_reducible exact obl0 | with_reducible refine obl1 ?_ ?_))
  all_goals (try first | with_reducible exact True.intro | (refine ob_pc hj ?_; (try rw [hj]); first | exact c_SyncI _ _ _) | (refine ob_pcn hj ?_; (try rw [hj]); first | exact c_SyncI _ _ _) | ((first | refine ob_le hj ?_ | refine ob_lei hj ?_ | refine ob_inb hj ?_ | refine ob_pos hj ?_ | refine ob_ne0 hj ?_ | refine ob_eqb hj ?_); (first | rfl | first | omega | (simp only [hj, std]; split <;> omega) | (simp (disch := omega) only [hj, std, cmpI, cmpB, satB, add64, sub64, ite0, pl0, pl2, pl3, sb0, if_true, if_false, eq_self, hl] <;> omega) | (simp (disch := omega) [hj, std, cmpI, cmpB, satB, add64, sub64, ite0, pl0, pl2, pl3, sb0, if_true, if_false, eq_self, hl] <;> omega))) | ((refine upd_box ?_ (upd_none (upd_none (upd_nil _))); (try rw [hj]); rfl)) | ((refine ob_ok hj ?_; (try rw [hj]); first | exact .inr ⟨_, _, rfl⟩ | exact ⟨_, rfl⟩)) | ((refine ob_vals hj ?_; (try rw [hj]); exact hv)) | ((rw [hj]; exact rfl)))
theorem pc_do2 (n s bn kn : Nat) (cs ds bs ks : List C) (an : Int) (h1 : s ≤ n) (h2 : n ≤ 1048576) (hl : cs.length = n) (hd : ds = cs.take s) (hk : ks.length = kn) (hk2 : kn ≤ 140737488355328) (hu : ∀ q, q < n → okK (.int .u8) (cellAt cs q)) (hks : ∀ q, q < kn → okK (.int .i64) (cellAt ks q)) :
    PC Try.prog T 22 [.root (iBox n cs (zN s)), .v true [.sl n cs, .sl s ds], .v true [vI 2, .sl bn bs, vI an, .sl kn ks]] (rets [(true, [.st (.sl (crN n (zN s) an) (crC n (zN s) an cs ks)), .st (.sl (crN n (zN s) an) ((crC n (zN s) an cs ks).take (crN n (zN s) an)))]), (false, [.st (vB true)])]) [iBox (crN n (zN s) an) (crC n (zN s) an cs ks) (zN (crN n (zN s) an)), .none, .none] := by
  have e1 : (crC n (zN s) an cs ks).take (crN n (zN s) an) = crC n (zN s) an cs ks := List.take_of_length_le (by rw [crC_len]; omega)
  obtain ⟨m0, m1⟩ := crN_le (n := n) (s := zN s) (sz := an) (by rw [zN_eq]; omega) (by rw [zN_eq]; omega)
  have cK := c_CrashI n kn cs ks (zN s) an (by rw [zN_eq]; omega) (by rw [zN_eq]; omega) (by omega) hl hk hk2 (u8_vals hl hu) hks
  have cR := c_RCrash n s kn cs ds ks an h1 (by omega) hl hd hk hk2 hu hks
  have cT : pc 56 [.v true [.sl n cs, .sl s ds], .v true [vI 2, .sl bn bs, vI an, .sl kn ks]] (ret1 (.st (vI (crK n kn (zN s) an)))) := ⟨enters Try.func56 (by kernel_rfl) (by kernel_rfl), pc_taken n s bn kn cs ds bs ks 2 an h1 (by omega) hl hd hk hk2 hu hks⟩
  have hcv := crC_vals (ks := ks) (by omega : crN n (zN s) an ≤ cs.length) (u8_vals hl hu)
  have eT : ∀ x : Int, cmpI .eql x x = true := fun x => by simp [cmpI]
  rw [e1]
  have e0 : gi (cellAt [vI 2, .sl bn bs, vI an, .sl kn ks] 0) = 2 := rfl
  have hz := zN_eq s
  refine pc_of tok Try.func22 rfl (by rfl) ?_
  obtain ⟨j, hj⟩ : ∃ j : J, j = std Try.prog T := ⟨_, rfl⟩
  have hm : Try.prog.follows .mixedOrders = true := by kernel_rfl
  generalize y_zN : @zN = x_zN at *
  generalize y_secN : @secN = x_secN at *
  generalize y_crN : @crN = x_crN at *
  generalize y_crC : @crC = x_crC at *
  generalize y_crK : @crK = x_crK at *
  generalize y_flB : @flB = x_flB at *
  generalize y_flC : @flC = x_flC at *
  generalize y_plN : @plN = x_plN at *
  generalize y_apC : @apC = x_apC at *
  (repeat' first | (with_reducible refine aw_at (id := 1) ?_) | (with_reducible refine aw_at2 (id := 1) ?_) | ((first | with_reducible refine tr_cut (fun h => ?_) (fun h => ?_) | refine aw_condj (by cbv) (fun h => ?_) (fun h => ?_)) <;> (try simp (disch := omega) only [hj, std, cmpI, cmpB, satB, Bool.not_eq_true, Bool.not_eq_false, decide_eq_true_eq, decide_eq_false_iff_not, beq_iff_eq, bne_iff_ne, bne_eq_false_iff_eq, beq_eq_false_iff_ne, ne_eq, reduceCtorEq, not_true_eq_false, not_false_eq_true, pl0, if_true, cmpS_eq, cmpS_neq, Bool.not_eq_eq_eq_not, Bool.not_true, Bool.not_false, Bool.not_eq_true', add64, sub64] at h) <;> (try (exfalso; omega))) | (with_reducible refine tr_alt (fun h => ?_) ?_ <;> (try (exfalso; omega))) | (with_reducible refine tr_ob ?_ ?_) | (with_reducible refine tr_done ?_) | (refine aw_tr hj tok (bookI2 x_zN x_secN x_crN x_crC x_crK x_flB x_flC x_plN x_apC) (by cbv) ?_) | (refine aw_seq fun K hK => ?_) | (refine aw_tr1 hj tok (bookI2 x_zN x_secN x_crN x_crC x_crK x_flB x_flC x_plN x_apC) (by cbv) ?_) | (refine aw_skip ?_) | (refine aw_block ?_) | (refine aw_exit ?_) | (refine aw_ret ⟨.inr rfl, ret_okj hj (by cbv) ?_ ?_⟩) | (refine aw_ret ?_) | (with_reducible refine th_n ?_) | (with_reducible refine th_r ?_) | (with_reducible refine th_x ?_) | (with_reducible refine blk_n ?_) | (with_reducible refine blk_r ?_) | (with_reducible refine blk_x ?_) | (with_reducible refine blk_y rfl ?_) | (refine ⟨.inr rfl, ret_okj hj (by cbv) ?_ ?_⟩) | (refine ⟨.inl rfl, ret_okj hj (by cbv) ?_ ?_⟩) | (with_reducible apply_assumption -symm -exfalso only [*]))
  all_goals ((try subst y_zN); (try subst y_secN); (try subst y_crN); (try subst y_crC); (try subst y_crK); (try subst y_flB); (try subst y_flC); (try subst y_plN); (try subst y_apC))
  refine stop_go ?_
  refine aw_frz 4 (by cbv) ?_
  refine aw_frz 5 (by cbv) ?_
  generalize y_zN : @zN = x_zN at *
  generalize y_secN : @secN = x_secN at *
  generalize y_crN : @crN = x_crN at *
  generalize y_crC : @crC = x_crC at *
  generalize y_crK : @crK = x_crK at *
  generalize y_flB : @flB = x_flB at *
  generalize y_flC : @flC = x_flC at *
  generalize y_plN : @plN = x_plN at *
  generalize y_apC : @apC = x_apC at *
  (repeat' first | (refine aw_retf hj [(6, .keep), (7, .keep), (6, .bfz 0), (6, .bfz 1)] [6] (by cbv) ?_) | (refine ⟨.inr rfl, ret_oku hj (by cbv) (by cbv) rfl ?_ ?_ (upd_of ?_)⟩) | (refine ⟨.inl rfl, ret_oku hj (by cbv) (by cbv) rfl ?_ ?_ (upd_of ?_)⟩) | ((first | with_reducible refine tr_cut (fun h => ?_) (fun h => ?_) | refine aw_condj (by cbv) (fun h => ?_) (fun h => ?_)) <;> (try simp (disch := omega) only [hj, std, cmpI, cmpB, satB, Bool.not_eq_true, Bool.not_eq_false, decide_eq_true_eq, decide_eq_false_iff_not, beq_iff_eq, bne_iff_ne, bne_eq_false_iff_eq, beq_eq_false_iff_ne, ne_eq, reduceCtorEq, not_true_eq_false, not_false_eq_true, pl0, if_true, cmpS_eq, cmpS_neq, Bool.not_eq_eq_eq_not, Bool.not_true, Bool.not_false, Bool.not_eq_true', e0, add64, sub64] at h) <;> (try (exfalso; omega))) | (with_reducible refine tr_alt (fun h => ?_) ?_ <;> (try (exfalso; omega))) | (with_reducible refine tr_ob ?_ ?_) | (with_reducible refine tr_done ?_) | (refine aw_dc1 (id := 8) hj tok hm (bookI2 x_zN x_secN x_crN x_crC x_crK x_flB x_flC x_plN x_apC) [0, 1, 2, 3, 4, 5, 6, 7, 9, 10] (.last 8 (.last 11 (.take 12 (.last 13 (.take 14 .done))))) (by kernel_rfl) (by cbv) ?_) | (refine aw_dc (id := 8) hj tok hm (bookI2 x_zN x_secN x_crN x_crC x_crK x_flB x_flC x_plN x_apC) [0, 1, 2, 3, 4, 5, 6, 7, 9, 10] (.last 8 (.last 11 (.take 12 (.last 13 (.take 14 .done))))) (by kernel_rfl) (by cbv) ?_) | (refine aw_dc1 (id := 2) hj tok hm (bookI2 x_zN x_secN x_crN x_crC x_crK x_flB x_flC x_plN x_apC) [1, 2, 4, 5, 7, 8, 10, 11, 12] (.last 0 (.last 3 (.last 6 (.take 9 (.last 13 (.last 14 (.take 15 .done))))))) (by kernel_rfl) (by cbv) ?_) | (refine aw_dc (id := 2) hj tok hm (bookI2 x_zN x_secN x_crN x_crC x_crK x_flB x_flC x_plN x_apC) [1, 2, 4, 5, 7, 8, 10, 11, 12] (.last 0 (.last 3 (.last 6 (.take 9 (.last 13 (.last 14 (.take 15 .done))))))) (by kernel_rfl) (by cbv) ?_) | (refine aw_tr hj tok (bookI2 x_zN x_secN x_crN x_crC x_crK x_flB x_flC x_plN x_apC) (by cbv) ?_) | (refine aw_seq fun K hK => ?_) | (refine aw_tr1 hj tok (bookI2 x_zN x_secN x_crN x_crC x_crK x_flB x_flC x_plN x_apC) (by cbv) ?_) | (refine aw_skip ?_) | (refine aw_block ?_) | (refine aw_exit ?_) | (refine aw_ret ⟨.inr rfl, ret_okj hj (by cbv) ?_ ?_⟩) | (refine aw_ret ?_) | (with_reducible refine th_n ?_) | (with_reducible refine th_r ?_) | (with_reducible refine th_x ?_) | (with_reducible refine blk_n ?_) | (with_reducible refine blk_r ?_) | (with_reducible refine blk_x ?_) | (with_reducible refine blk_y rfl ?_) | (refine ⟨.inr rfl, ret_okj hj (by cbv) ?_ ?_⟩) | (refine ⟨.inl rfl, ret_okj hj (by cbv) ?_ ?_⟩) | (with_reducible apply_assumption -symm -exfalso only [*]))
  all_goals ((try subst y_zN); (try subst y_secN); (try subst y_crN); (try subst y_crC); (try subst y_crK); (try subst y_flB); (try subst y_flC); (try subst y_plN); (try subst y_apC))
  all_goals (try (repeat' first | with_reducible exact obl0 | with_reducible refine obl1 ?_ ?_))
  all_goals (try first | with_reducible exact True.intro | (refine ob_pc hj ?_; (try rw [hj]); first | exact cK | exact cR | exact cT) | (refine ob_pcn hj ?_; (try rw [hj]); first | exact cK | exact cR | exact cT) | ((first | refine ob_le hj ?_ | refine ob_lei hj ?_ | refine ob_inb hj ?_ | refine ob_pos hj ?_ | refine ob_ne0 hj ?_ | refine ob_eqb hj ?_); (first | rfl | first | omega | (simp only [hj, std]; split <;> omega) | (simp (disch := omega) only [hj, std, cmpI, cmpB, satB, add64, sub64, ite0, pl0, pl2, pl3, sb0, if_true, if_false, eq_self, hl] <;> omega) | (simp (disch := omega) [hj, std, cmpI, cmpB, satB, add64, sub64, ite0, pl0, pl2, pl3, sb0, if_true, if_false, eq_self, hl] <;> omega))) | ((refine upd_box ?_ (upd_none (upd_none (upd_nil _))); (try rw [hj]); rfl)) | ((refine ob_ok hj ?_; (try rw [hj]); first | exact .inr ⟨_, _, rfl⟩ | exact ⟨_, rfl⟩)) | ((refine ob_vals hj ?_; (try rw [hj]); exact hcv)) | ((refine rets_file ?_ ?_ ?_ ?_ ?_ <;> (try rw [hj]) <;> first | rfl | exact eT (crK n kn (zN s) an))))
theorem pc_do3 (n s bn kn : Nat) (cs ds bs ks : List C) (kd an : Int) (hkd : kd ≠ 0 ∧ kd ≠ 1 ∧ kd ≠ 2) (h1 : s ≤ n) (h2 : n ≤ 1048576) (hl : cs.length = n) (hd : ds = cs.take s) (hu : ∀ q, q < n → okK (.int .u8) (cellAt cs q)) (hfv : ∀ c ∈ flC n cs an, ∃ v, c = .val v) :
    PC Try.prog T 22 [.root (iBox n cs (zN s)), .v true [.sl n cs, .sl s ds], .v true [vI kd, .sl bn bs, vI an, .sl kn ks]] (rets [(true, [.st (.sl n (flC n cs an)), .st (.sl s ((flC n cs an).take s))]), (false, [.st (vB true)])]) [iBox n (flC n cs an) (zN s), .none, .none] := by
  have m8 := mul8 (n := n) (by omega)
  have hfl := flC_len (bit := an) hl
  have eB : flB n an = decide (0 ≤ an ∧ an < 8 * (n : Int)) := rfl
  have cF := c_FlipI n cs (zN s) an hl (by omega) hu
  have cR := c_RFlip n cs an hl (by omega) hu
  have eL : extC (flC n cs an) 0 s = (flC n cs an).take s := by simp [extC]
  have e0 : gi (cellAt [vI kd, .sl bn bs, vI an, .sl kn ks] 0) = kd := rfl
  have e2 : gi (cellAt [vI kd, .sl bn bs, vI an, .sl kn ks] 2) = an := rfl
  have e3 : gn (cellAt [.sl n cs, .sl s ds] 0) = n := rfl
  have e4 : gn (cellAt [.sl n cs, .sl s ds] 1) = s := rfl
  have e5 : gc (cellAt [.sl n cs, .sl s ds] 0) = cs := rfl
  have hz := zN_eq s
  refine pc_of tok Try.func22 rfl (by rfl) ?_
  obtain ⟨j, hj⟩ : ∃ j : J, j = std Try.prog T := ⟨_, rfl⟩
  have hm : Try.prog.follows .mixedOrders = true := by kernel_rfl
  generalize y_zN : @zN = x_zN at *
  generalize y_secN : @secN = x_secN at *
  generalize y_crN : @crN = x_crN at *
  generalize y_crC : @crC = x_crC at *
  generalize y_crK : @crK = x_crK at *
  generalize y_flB : @flB = x_flB at *
  generalize y_flC : @flC = x_flC at *
  generalize y_plN : @plN = x_plN at *
  generalize y_apC : @apC = x_apC at *
  (repeat' first | (with_reducible refine aw_at (id := 1) ?_) | (with_reducible refine aw_at2 (id := 1) ?_) | ((first | with_reducible refine tr_cut (fun h => ?_) (fun h => ?_) | refine aw_condj (by cbv) (fun h => ?_) (fun h => ?_)) <;> (try simp (disch := omega) only [hj, std, cmpI, cmpB, satB, Bool.not_eq_true, Bool.not_eq_false, decide_eq_true_eq, decide_eq_false_iff_not, beq_iff_eq, bne_iff_ne, bne_eq_false_iff_eq, beq_eq_false_iff_ne, ne_eq, reduceCtorEq, not_true_eq_false, not_false_eq_true, pl0, if_true, cmpS_eq, cmpS_neq, Bool.not_eq_eq_eq_not, Bool.not_true, Bool.not_false, Bool.not_eq_true', add64, sub64] at h) <;> (try (exfalso; omega))) | (with_reducible refine tr_alt (fun h => ?_) ?_ <;> (try (exfalso; omega))) | (with_reducible refine tr_ob ?_ ?_) | (with_reducible refine tr_done ?_) | (refine aw_tr hj tok (bookI2 x_zN x_secN x_crN x_crC x_crK x_flB x_flC x_plN x_apC) (by cbv) ?_) | (refine aw_seq fun K hK => ?_) | (refine aw_tr1 hj tok (bookI2 x_zN x_secN x_crN x_crC x_crK x_flB x_flC x_plN x_apC) (by cbv) ?_) | (refine aw_skip ?_) | (refine aw_block ?_) | (refine aw_exit ?_) | (refine aw_ret ⟨.inr rfl, ret_okj hj (by cbv) ?_ ?_⟩) | (refine aw_ret ?_) | (with_reducible refine th_n ?_) | (with_reducible refine th_r ?_) | (with_reducible refine th_x ?_) | (with_reducible refine blk_n ?_) | (with_reducible refine blk_r ?_) | (with_reducible refine blk_x ?_) | (with_reducible refine blk_y rfl ?_) | (refine ⟨.inr rfl, ret_okj hj (by cbv) ?_ ?_⟩) | (refine ⟨.inl rfl, ret_okj hj (by cbv) ?_ ?_⟩) | (with_reducible apply_assumption -symm -exfalso only [*]))
  all_goals ((try subst y_zN); (try subst y_secN); (try subst y_crN); (try subst y_crC); (try subst y_crK); (try subst y_flB); (try subst y_flC); (try subst y_plN); (try subst y_apC))
  refine stop_go ?_
  refine aw_frz 4 (by cbv) ?_
  refine aw_frz 5 (by cbv) ?_
  rcases Decidable.em (0 ≤ an ∧ an < 8 * (n : Int)) with hb | hb
  · rw [decide_eq_true hb] at eB
    have eF : 0 ≤ an → cmpB .eql (flB n an) (cmpI .lss an (arithI .mul .i64 8 (n : Int))) = true := fun _ => by rw [m8, eB]; show (true == decide (an < 8 * (n : Int))) = true; rw [decide_eq_true hb.2]; rfl
    generalize y_zN : @zN = x_zN at *
    generalize y_secN : @secN = x_secN at *
    generalize y_crN : @crN = x_crN at *
    generalize y_crC : @crC = x_crC at *
    generalize y_crK : @crK = x_crK at *
    generalize y_flB : @flB = x_flB at *
    generalize y_flC : @flC = x_flC at *
    generalize y_plN : @plN = x_plN at *
    generalize y_apC : @apC = x_apC at *
    (repeat' first | (refine aw_last (id := 11) hj [(6, .keep), (7, .keep), (6, .bfz 0), (6, .bfz 1)] [6] ?_) | (refine aw_retf hj [(6, .keep), (7, .keep), (6, .bfz 0), (6, .bfz 1)] [6] (by cbv) ?_) | (refine ⟨.inr rfl, ret_oku hj (by cbv) (by cbv) rfl ?_ ?_ (upd_of ?_)⟩) | (refine ⟨.inl rfl, ret_oku hj (by cbv) (by cbv) rfl ?_ ?_ (upd_of ?_)⟩) | ((first | with_reducible refine tr_cut (fun h => ?_) (fun h => ?_) | refine aw_condj (by cbv) (fun h => ?_) (fun h => ?_)) <;> (try simp (disch := omega) only [hj, std, cmpI, cmpB, satB, Bool.not_eq_true, Bool.not_eq_false, decide_eq_true_eq, decide_eq_false_iff_not, beq_iff_eq, bne_iff_ne, bne_eq_false_iff_eq, beq_eq_false_iff_ne, ne_eq, reduceCtorEq, not_true_eq_false, not_false_eq_true, pl0, if_true, cmpS_eq, cmpS_neq, Bool.not_eq_eq_eq_not, Bool.not_true, Bool.not_false, Bool.not_eq_true', e0, e2, e3, m8, add64, sub64] at h) <;> (try (exfalso; omega))) | (with_reducible refine tr_alt (fun h => ?_) ?_ <;> (try (exfalso; omega))) | (with_reducible refine tr_ob ?_ ?_) | (with_reducible refine tr_done ?_) | (refine aw_dc1 (id := 11) hj tok hm (bookI2 x_zN x_secN x_crN x_crC x_crK x_flB x_flC x_plN x_apC) [0, 1, 2, 3, 4, 5, 6, 7, 8, 9, 11] (.last 10 (.take 12 (.last 13 (.take 14 .done)))) (by kernel_rfl) (by cbv) ?_) | (refine aw_dc (id := 11) hj tok hm (bookI2 x_zN x_secN x_crN x_crC x_crK x_flB x_flC x_plN x_apC) [0, 1, 2, 3, 4, 5, 6, 7, 8, 9, 11] (.last 10 (.take 12 (.last 13 (.take 14 .done)))) (by kernel_rfl) (by cbv) ?_) | (refine aw_dc1 (id := 8) hj tok hm (bookI2 x_zN x_secN x_crN x_crC x_crK x_flB x_flC x_plN x_apC) [0, 1, 2, 3, 4, 5, 6, 7, 9, 10] (.last 8 (.last 11 (.take 12 (.last 13 (.take 14 .done))))) (by kernel_rfl) (by cbv) ?_) | (refine aw_dc (id := 8) hj tok hm (bookI2 x_zN x_secN x_crN x_crC x_crK x_flB x_flC x_plN x_apC) [0, 1, 2, 3, 4, 5, 6, 7, 9, 10] (.last 8 (.last 11 (.take 12 (.last 13 (.take 14 .done))))) (by kernel_rfl) (by cbv) ?_) | (refine aw_dc1 (id := 2) hj tok hm (bookI2 x_zN x_secN x_crN x_crC x_crK x_flB x_flC x_plN x_apC) [1, 2, 4, 5, 7, 8, 10, 11, 12] (.last 0 (.last 3 (.last 6 (.take 9 (.last 13 (.last 14 (.take 15 .done))))))) (by kernel_rfl) (by cbv) ?_) | (refine aw_dc (id := 2) hj tok hm (bookI2 x_zN x_secN x_crN x_crC x_crK x_flB x_flC x_plN x_apC) [1, 2, 4, 5, 7, 8, 10, 11, 12] (.last 0 (.last 3 (.last 6 (.take 9 (.last 13 (.last 14 (.take 15 .done))))))) (by kernel_rfl) (by cbv) ?_) | (refine aw_tr hj tok (bookI2 x_zN x_secN x_crN x_crC x_crK x_flB x_flC x_plN x_apC) (by cbv) ?_) | (refine aw_seq fun K hK => ?_) | (refine aw_tr1 hj tok (bookI2 x_zN x_secN x_crN x_crC x_crK x_flB x_flC x_plN x_apC) (by cbv) ?_) | (refine aw_skip ?_) | (refine aw_block ?_) | (refine aw_exit ?_) | (refine aw_ret ⟨.inr rfl, ret_okj hj (by cbv) ?_ ?_⟩) | (refine aw_ret ?_) | (with_reducible refine th_n ?_) | (with_reducible refine th_r ?_) | (with_reducible refine th_x ?_) | (with_reducible refine blk_n ?_) | (with_reducible refine blk_r ?_) | (with_reducible refine blk_x ?_) | (with_reducible refine blk_y rfl ?_) | (refine ⟨.inr rfl, ret_okj hj (by cbv) ?_ ?_⟩) | (refine ⟨.inl rfl, ret_okj hj (by cbv) ?_ ?_⟩) | (with_reducible apply_assumption -symm -exfalso only [*]))
    all_goals ((try subst y_zN); (try subst y_secN); (try subst y_crN); (try subst y_crC); (try subst y_crK); (try subst y_flB); (try subst y_flC); (try subst y_plN); (try subst y_apC))
    all_goals (try (repeat' first | with_reducible exact obl0 | with_reducible refine obl1 ?_ ?_))
    all_goals (try first | with_reducible exact True.intro | (refine ob_pc hj ?_; (try rw [hj]); first | exact cF | exact cR) | (refine ob_pcn hj ?_; (try rw [hj]); first | exact cF | exact cR) | ((first | refine ob_le hj ?_ | refine ob_lei hj ?_ | refine ob_inb hj ?_ | refine ob_pos hj ?_ | refine ob_ne0 hj ?_ | refine ob_eqb hj ?_); (first | rfl | first | omega | (simp only [hj, std]; split <;> omega) | (simp (disch := omega) only [hj, std, cmpI, cmpB, satB, add64, sub64, ite0, pl0, pl2, pl3, sb0, if_true, if_false, eq_self, hl, e2, e3, e4, m8] <;> omega) | (simp (disch := omega) [hj, std, cmpI, cmpB, satB, add64, sub64, ite0, pl0, pl2, pl3, sb0, if_true, if_false, eq_self, hl, e2, e3, e4, m8] <;> omega))) | ((refine upd_box ?_ (upd_none (upd_none (upd_nil _))); (try rw [hj]); rfl)) | ((refine ob_ok hj ?_; (try rw [hj]); first | exact .inr ⟨_, _, rfl⟩ | exact ⟨_, rfl⟩)) | ((refine ob_vals hj ?_; (try rw [hj]); exact hfv)) | ((refine rets_file ?_ ?_ ?_ ?_ ?_ <;> (try rw [hj]) <;> first | rfl | exact eL | exact eF (by omega))) | ((simp only [hj, std, e2, e3, e4, e5, m8]; first | done | omega)))
  · rw [decide_eq_false hb] at eB
    have eH : cmpB .eql (flB n an) false = true := by rw [eB]; rfl
    have eF : 0 ≤ an → cmpB .eql (flB n an) (cmpI .lss an (arithI .mul .i64 8 (n : Int))) = true := fun h => by rw [m8, eB]; show (false == decide (an < 8 * (n : Int))) = true; rw [decide_eq_false (fun q => hb ⟨h, q⟩)]; rfl
    generalize y_zN : @zN = x_zN at *
    generalize y_secN : @secN = x_secN at *
    generalize y_crN : @crN = x_crN at *
    generalize y_crC : @crC = x_crC at *
    generalize y_crK : @crK = x_crK at *
    generalize y_flB : @flB = x_flB at *
    generalize y_flC : @flC = x_flC at *
    generalize y_plN : @plN = x_plN at *
    generalize y_apC : @apC = x_apC at *
    (repeat' first | (refine aw_last (id := 11) hj [(6, .keep), (7, .keep), (6, .bfz 0), (6, .bfz 1)] [6] ?_) | (refine aw_retf hj [(6, .keep), (7, .keep), (6, .bfz 0), (6, .bfz 1)] [6] (by cbv) ?_) | (refine ⟨.inr rfl, ret_oku hj (by cbv) (by cbv) rfl ?_ ?_ (upd_of ?_)⟩) | (refine ⟨.inl rfl, ret_oku hj (by cbv) (by cbv) rfl ?_ ?_ (upd_of ?_)⟩) | ((first | with_reducible refine tr_cut (fun h => ?_) (fun h => ?_) | refine aw_condj (by cbv) (fun h => ?_) (fun h => ?_)) <;> (try simp (disch := omega) only [hj, std, cmpI, cmpB, satB, Bool.not_eq_true, Bool.not_eq_false, decide_eq_true_eq, decide_eq_false_iff_not, beq_iff_eq, bne_iff_ne, bne_eq_false_iff_eq, beq_eq_false_iff_ne, ne_eq, reduceCtorEq, not_true_eq_false, not_false_eq_true, pl0, if_true, cmpS_eq, cmpS_neq, Bool.not_eq_eq_eq_not, Bool.not_true, Bool.not_false, Bool.not_eq_true', e0, e2, e3, m8, add64, sub64] at h) <;> (try (exfalso; omega))) | (with_reducible refine tr_alt (fun h => ?_) ?_ <;> (try (exfalso; omega))) | (with_reducible refine tr_ob ?_ ?_) | (with_reducible refine tr_done ?_) | (refine aw_dc1 (id := 11) hj tok hm (bookI2 x_zN x_secN x_crN x_crC x_crK x_flB x_flC x_plN x_apC) [0, 1, 2, 3, 4, 5, 6, 7, 8, 9, 11] (.last 10 (.take 12 (.last 13 (.take 14 .done)))) (by kernel_rfl) (by cbv) ?_) | (refine aw_dc (id := 11) hj tok hm (bookI2 x_zN x_secN x_crN x_crC x_crK x_flB x_flC x_plN x_apC) [0, 1, 2, 3, 4, 5, 6, 7, 8, 9, 11] (.last 10 (.take 12 (.last 13 (.take 14 .done)))) (by kernel_rfl) (by cbv) ?_) | (refine aw_dc1 (id := 8) hj tok hm (bookI2 x_zN x_secN x_crN x_crC x_crK x_flB x_flC x_plN x_apC) [0, 1, 2, 3, 4, 5, 6, 7, 9, 10] (.last 8 (.last 11 (.take 12 (.last 13 (.take 14 .done))))) (by kernel_rfl) (by cbv) ?_) | (refine aw_dc (id := 8) hj tok hm (bookI2 x_zN x_secN x_crN x_crC x_crK x_flB x_flC x_plN x_apC) [0, 1, 2, 3, 4, 5, 6, 7, 9, 10] (.last 8 (.last 11 (.take 12 (.last 13 (.take 14 .done))))) (by kernel_rfl) (by cbv) ?_) | (refine aw_dc1 (id := 2) hj tok hm (bookI2 x_zN x_secN x_crN x_crC x_crK x_flB x_flC x_plN x_apC) [1, 2, 4, 5, 7, 8, 10, 11, 12] (.last 0 (.last 3 (.last 6 (.take 9 (.last 13 (.last 14 (.take 15 .done))))))) (by kernel_rfl) (by cbv) ?_) | (refine aw_dc (id := 2) hj tok hm (bookI2 x_zN x_secN x_crN x_crC x_crK x_flB x_flC x_plN x_apC) [1, 2, 4, 5, 7, 8, 10, 11, 12] (.last 0 (.last 3 (.last 6 (.take 9 (.last 13 (.last 14 (.take 15 .done))))))) (by kernel_rfl) (by cbv) ?_) | (refine aw_tr hj tok (bookI2 x_zN x_secN x_crN x_crC x_crK x_flB x_flC x_plN x_apC) (by cbv) ?_) | (refine aw_seq fun K hK => ?_) | (refine aw_tr1 hj tok (bookI2 x_zN x_secN x_crN x_crC x_crK x_flB x_flC x_plN x_apC) (by cbv) ?_) | (refine aw_skip ?_) | (refine aw_block ?_) | (refine aw_exit ?_) | (refine aw_ret ⟨.inr rfl, ret_okj hj (by cbv) ?_ ?_⟩) | (refine aw_ret ?_) | (with_reducible refine th_n ?_) | (with_reducible refine th_r ?_) | (with_reducible refine th_x ?_) | (with_reducible refine blk_n ?_) | (with_reducible refine blk_r ?_) | (with_reducible refine blk_x ?_) | (with_reducible refine blk_y rfl ?_) | (refine ⟨.inr rfl, ret_okj hj (by cbv) ?_ ?_⟩) | (refine ⟨.inl rfl, ret_okj hj (by cbv) ?_ ?_⟩) | (with_reducible apply_assumption -symm -exfalso only [*]))
    all_goals ((try subst y_zN); (try subst y_secN); (try subst y_crN); (try subst y_crC); (try subst y_crK); (try subst y_flB); (try subst y_flC); (try subst y_plN); (try subst y_apC))
    all_goals (try (repeat' first | with_reducible exact obl0 | with_reducible refine obl1 ?_ ?_))
    all_goals (try first | with_reducible exact True.intro | (refine ob_pc hj ?_; (try rw [hj]); first | exact cF | exact cR) | (refine ob_pcn hj ?_; (try rw [hj]); first | exact cF | exact cR) | ((first | refine ob_le hj ?_ | refine ob_lei hj ?_ | refine ob_inb hj ?_ | refine ob_pos hj ?_ | refine ob_ne0 hj ?_ | refine ob_eqb hj ?_); (first | rfl | first | omega | (simp only [hj, std]; split <;> omega) | (simp (disch := omega) only [hj, std, cmpI, cmpB, satB, add64, sub64, ite0, pl0, pl2, pl3, sb0, if_true, if_false, eq_self, hl, e2, e3, e4, m8] <;> omega) | (simp (disch := omega) [hj, std, cmpI, cmpB, satB, add64, sub64, ite0, pl0, pl2, pl3, sb0, if_true, if_false, eq_self, hl, e2, e3, e4, m8] <;> omega))) | ((refine upd_box ?_ (upd_none (upd_none (upd_nil _))); (try rw [hj]); rfl)) | ((refine ob_ok hj ?_; (try rw [hj]); first | exact .inr ⟨_, _, rfl⟩ | exact ⟨_, rfl⟩)) | ((refine ob_vals hj ?_; (try rw [hj]); exact hfv)) | ((refine rets_file ?_ ?_ ?_ ?_ ?_ <;> (try rw [hj]) <;> first | rfl | exact eL | exact eF (by omega) | exact eH)) | ((simp only [hj, std, e2, e3, e4, e5, m8]; first | done | omega)))
end Go.Proofs.Ytnmlcfjljeccnaa.A
/- The contracts of package inode, layer 8. -/
set_option linter.unusedSimpArgs false
set_option linter.unusedVariables false
set_option maxRecDepth 100000
set_option maxHeartbeats 4000000
namespace Go.Proofs.Ytnmlcfjljeccnaa
open Go.RowKit
def bv (b : UInt8) : Value := .int .u8 (b.toNat : Int)
theorem bv_one (l : List UInt8) : ∀ u ∈ l.map bv, u.oneCell' = true := by
  intro u hu
  obtain ⟨_, _, rfl⟩ := List.mem_map.1 hu
  rfl
theorem Try.info_u8 : (Try.prog.info? 5).map (fun i => (i.zero, i.size, i.bytes)) = some (some (.int .u8 0), 1, 1) := by kernel_rfl
def FileAt (w : World) (F : Nat) (v : Value) (bs : List UInt8) (safe : Nat) : Prop :=
  w.heap[F]? = some (.cells #[v, .int .i64 (safe : Int)] 100 (0, 0)) ∧ w.ownsRow (F + 1) 5 1 v bs.length (bs.map bv) ∧ safe ≤ bs.length ∧ bs.length ≤ 1048576
def FP (F : Nat) (v : Value) : Nat → Prop := fun k => k = F ∨ v.ownBlock = some k
theorem FileAt.keep {S : Nat → Prop} {w w' : World} {F : Nat} {v : Value} {bs : List UInt8} {safe : Nat} (h : FileAt w F v bs safe) (hc : Chg S w w') (hs : ∀ k, FP F v k → ¬ S k) : FileAt w' F v bs safe :=
  ⟨(hc.block F (lt_of_block h.1) (hs F (.inl rfl))).trans h.1, hc.owns h.2.1 (fun k hk => hs k (.inr hk)), h.2.2⟩
theorem FileAt.lt {w : World} {F : Nat} {v : Value} {bs : List UInt8} {safe : Nat} (h : FileAt w F v bs safe) : F < w.heap.size ∧ ∀ k, v.ownBlock = some k → F + 1 ≤ k ∧ k < w.heap.size := ⟨lt_of_block h.1, h.2.1.lt⟩
theorem FileAt.cells {w : World} {F : Nat} {v : Value} {bs : List UInt8} {safe : Nat} (h : FileAt w F v bs safe) : w.cell? ⟨F, 0, none⟩ = some v ∧ w.cell? ⟨F, 1, none⟩ = some (.int .i64 (safe : Int)) ∧ w.frozen? ⟨F, 0, none⟩ = false ∧ w.frozen? ⟨F, 1, none⟩ = false := by
  refine ⟨?_, ?_, ?_, ?_⟩
  · rw [cell_of_row w F 0 _ _ _ h.1]; rfl
  · rw [cell_of_row w F 1 _ _ _ h.1]; rfl
  · exact frozen_of_row w F 0 _ _ h.1
  · exact frozen_of_row w F 1 _ _ h.1
theorem two_set0 {w : World} {F : Nat} {v s u : Value} {t : TypeId} (h : w.heap[F]? = some (.cells #[v, s] t (0, 0))) : (w.setCell ⟨F, 0, none⟩ u).heap[F]? = some (.cells #[u, s] t (0, 0)) := by
  rw [heap_setCell_same w F 0 _ t u h]; rfl
theorem two_set1 {w : World} {F : Nat} {v s u : Value} {t : TypeId} (h : w.heap[F]? = some (.cells #[v, s] t (0, 0))) : (w.setCell ⟨F, 1, none⟩ u).heap[F]? = some (.cells #[v, u] t (0, 0)) := by
  rw [heap_setCell_same w F 1 _ t u h]; rfl
theorem FileAt.store {w : World} {F g l cap : Nat} {bs : List UInt8} {safe : Nat} (h : FileAt w F (.slice (some ⟨g, 0, none⟩) l cap) bs safe) (k : Nat) (b : UInt8) :
    FileAt (w.setCell ⟨g, k, none⟩ (bv b)) F (.slice (some ⟨g, 0, none⟩) l cap) (bs.set k b) safe ∧ Chg (FP F (.slice (some ⟨g, 0, none⟩) l cap)) w (w.setCell ⟨g, k, none⟩ (bv b)) := by
  obtain ⟨h1, h2, h3, h4⟩ := h
  obtain ⟨a', c', hv, _, _, _, _⟩ := owns_form h2
  cases hv
  have hgF := (h2.lt g rfl).1
  obtain ⟨hs, hg⟩ := h2.stored k (bv b)
  refine ⟨⟨?_, ?_, by rw [List.length_set]; exact h3, by rw [List.length_set]; exact h4⟩, (Chg.of_grown hg).mono fun q _ hq => .inr hq⟩
  · rw [hg.block F (lt_of_block h1) (fun e => by cases e; omega)]; exact h1
  · rw [List.length_set, List.map_set]; exact hs
theorem FileAt.alloc {w : World} {F : Nat} {v : Value} {bs : List UInt8} {safe : Nat} (h : FileAt w F v bs safe) (o : Obj) : FileAt (w.alloc o) F v bs safe := h.keep (Chg.alloc (fun _ => False) w o) (fun _ _ h => h)
theorem FileAt.below {w w' : World} {F : Nat} {v : Value} {bs : List UInt8} {safe : Nat} (h : FileAt w F v bs safe) (hb : Below w.heap.size w w') : FileAt w' F v bs safe := h.keep (Chg.of_below hb (fun _ => False)) (fun _ _ h => h)
theorem FileAt.fp {w : World} {F : Nat} {v : Value} {bs : List UInt8} {safe : Nat} (h : FileAt w F v bs safe) : ∀ k, FP F v k → F ≤ k ∧ k < w.heap.size := by
  rintro k (rfl | hk)
  · exact ⟨Nat.le_refl _, h.lt.1⟩
  · have := h.lt.2 k hk; omega
theorem FileAt.drew {w : World} {F : Nat} {v : Value} {bs : List UInt8} {safe : Nat} (h : FileAt w F v bs safe) : FileAt w.drew F v bs safe := h
theorem FileAt.drewN {w : World} {F : Nat} {v : Value} {bs : List UInt8} {safe : Nat} (h : FileAt w F v bs safe) (n : Nat) : FileAt (w.drewN n) F v bs safe := h
set_option maxHeartbeats 400000 in
theorem new_any (a : Option Addr) (len cap : Nat) (bs : List UInt8) (w : World) (hlen : len = bs.length) (hs : Src w (.slice a len cap) len (bs.map bv)) (hm : len ≤ 1048576) :
    Calls Try.prog 21 #[.slice a len cap] w fun e w' => ∃ v, e = .returned (.pointer (some ⟨w.heap.size, 0, none⟩)) ∧ FileAt w' w.heap.size v bs bs.length ∧ Below w.heap.size w w' := by
  obtain ⟨i0, hi, hz0, hz1, hz2⟩ := info_parts Try.info_u8
  have HL := Lib.hid hlen
  clear hlen
  go_enter Try.func21, Try.ntmps21
  go_wp2_with (at_builtin; refine wpList_append_src _ rfl (.tmp 12) (.tmp 13) 38 rfl (w.heap.size + 1) 5 i0 (.int .u8 0) 1 1 Try.underlying38 hi hz0 hz1 hz2 rfl (by decide) _ _ _ rfl (World.ownsRow_nil _ _ _ _) _ len (bs.map bv) rfl (by simp [HL.out]) (hs.stays fun p hp => World.cell?_of_block (w := w) (Below.heap_alloc w _ p.block hp)) (bv_one bs) ?c1 ?c2 ?c3 ?_)
  case c1 => unfold maxLen; omega
  case c2 => omega
  case c3 => simp
  intro v' w2 hown hold hgrow hwhere hnil
  have hF0 : w2.heap[w.heap.size]? = some (.cells #[.slice none 0 0, .int .i64 (len : Int)] 100 (0, 0)) :=
    (hgrow.block w.heap.size (by simp) (by simp [Value.ownBlock])).trans (heap_alloc_new w _)
  have hbel : Below w.heap.size w w2 := ((Below.refl _ _).alloc (Nat.le_refl _) _).grown hgrow (by simp) (fun q hq => by simp [Value.ownBlock] at hq)
  obtain ⟨a', c', rfl, _, _, _⟩ := owns_form hown
  have c0 : w2.cell? ⟨w.heap.size, 0, none⟩ = some (.slice none 0 0) := by rw [cell_of_row w2 _ 0 _ _ _ hF0]; rfl
  have f0 : w2.frozen? ⟨w.heap.size, 0, none⟩ = false := frozen_of_row w2 _ 0 _ _ hF0
  have HF := Lib.hid hF0
  have HO := Lib.hid hown
  clear hF0 hold hgrow hwhere hnil hown hs
  go_wp2
  go_ret
  refine ⟨.slice a' len c', rfl, ⟨by rw [← HL.out]; exact two_set0 HF.out, ?_, Nat.le_refl _, by rw [← HL.out]; exact hm⟩, hbel.setCell (Nat.le_refl _) _⟩
  rw [← HL.out]
  refine (Chg.of_setCell w2 ⟨w.heap.size, 0, none⟩ _).owns HO.out ?_
  intro k hk h
  have := (HO.out.lt k hk).1
  have h2 : k = w.heap.size := h
  omega
set_option maxHeartbeats 400000 in
theorem len_any (F : Nat) (v : Value) (bs : List UInt8) (safe : Nat) (w : World) (hf : FileAt w F v bs safe) :
    Calls Try.prog 24 #[.pointer (some ⟨F, 0, none⟩)] w fun e w' => e = .returned (.int .i64 (bs.length : Int)) ∧ w = w' := by
  obtain ⟨c0, c1, f0, f1⟩ := hf.cells
  obtain ⟨a, cap, rfl, _, _, _⟩ := owns_form hf.2.1
  clear hf
  go_enter Try.func24, Try.ntmps24
  go_wp2
  go_ret
  exact ⟨rfl, rfl⟩
set_option maxHeartbeats 400000 in
theorem safe_any (F : Nat) (v : Value) (bs : List UInt8) (safe : Nat) (w : World) (hf : FileAt w F v bs safe) :
    Calls Try.prog 25 #[.pointer (some ⟨F, 0, none⟩)] w fun e w' => e = .returned (.int .i64 (safe : Int)) ∧ w = w' := by
  obtain ⟨c0, c1, f0, f1⟩ := hf.cells
  clear hf
  go_enter Try.func25, Try.ntmps25
  go_wp2
  go_ret
  exact ⟨rfl, rfl⟩
set_option maxHeartbeats 400000 in
theorem sector_any (i : Int) (w : World) (h0 : 0 ≤ i) (hi : i ≤ 9223372036854775807) :
    Calls Try.prog 59 #[.int .i64 i] w fun e w' => e = .returned (.int .i64 (i / 16)) ∧ w = w' := by
  go_enter Try.func59, Try.ntmps59
  go_wp2
  go_ret
  exact ⟨rfl, rfl⟩
set_option maxHeartbeats 400000 in
theorem sync_any (F : Nat) (v : Value) (bs : List UInt8) (safe : Nat) (w : World) (hf : FileAt w F v bs safe) :
    Calls Try.prog 54 #[.pointer (some ⟨F, 0, none⟩)] w fun e w' => e = .returned (.tuple #[]) ∧ FileAt w' F v bs bs.length ∧ Chg (fun k => k = F) w w' := by
  obtain ⟨c0, c1, f0, f1⟩ := hf.cells
  obtain ⟨a, cap, rfl, _, _, _⟩ := owns_form hf.2.1
  have HF := Lib.hid hf
  clear hf
  go_enter Try.func54, Try.ntmps54
  go_wp2
  go_end0
  obtain ⟨h1, h2, h3, h4⟩ := HF.out
  refine ⟨rfl, ⟨two_set1 h1, ?_, Nat.le_refl _, h4⟩, Chg.of_setCell w ⟨F, 1, none⟩ _⟩
  refine (Chg.of_setCell w ⟨F, 1, none⟩ _).owns h2 ?_
  intro k hk h
  have := (h2.lt k hk).1
  have h2 : k = F := h
  omega
def sectorsN (len safe : Nat) : Nat := if safe = len then 0 else (len - 1) / 16 - safe / 16 + 1
set_option maxHeartbeats 400000 in
theorem sectors_any (F : Nat) (v : Value) (bs : List UInt8) (safe : Nat) (w : World) (hf : FileAt w F v bs safe) :
    Calls Try.prog 26 #[.pointer (some ⟨F, 0, none⟩)] w fun e w' => e = .returned (.int .i64 (sectorsN bs.length safe : Int)) ∧ ∃ n, w' = w.drewN n := by
  by_cases h : safe = bs.length
  · have heq : ((safe : Int) == (bs.length : Int)) = true := by simp [h]
    have HS := Lib.hid (show sectorsN bs.length safe = 0 by unfold sectorsN; rw [if_pos h])
    clear h
    go_enter Try.func26, Try.ntmps26
    go_wp2_with fail
    refine (safe_any F v bs safe w hf).mono ?_
    rintro e w' ⟨rfl, rfl⟩
    go_wp2_with fail
    refine (len_any F v bs safe w hf).mono ?_
    rintro e w' ⟨rfl, rfl⟩
    go_wp2
    go_ret
    exact ⟨by rw [HS.out]; rfl, 0, rfl⟩
  · have heq : ((safe : Int) == (bs.length : Int)) = false := by simp; omega
    have HS := Lib.hid (show sectorsN bs.length safe = (bs.length - 1) / 16 - safe / 16 + 1 by unfold sectorsN; rw [if_neg h])
    have h3 := hf.2.2.1
    have h4 := hf.2.2.2
    have hlt : safe < bs.length := by omega
    obtain ⟨c0, c1, f0, f1⟩ := hf.cells
    have hle : safe / 16 ≤ (bs.length - 1) / 16 := Nat.div_le_div_right (by omega)
    clear h h3
    go_enter Try.func26, Try.ntmps26
    go_wp2_with fail
    refine (safe_any F v bs safe w hf).mono ?_
    rintro e w' ⟨rfl, rfl⟩
    go_wp2_with fail
    refine (len_any F v bs safe w hf).mono ?_
    rintro e w' ⟨rfl, rfl⟩
    go_wp2_with fail
    have hfd : FileAt w.drew F v bs safe := hf
    have e1 : IntKind.i64.wrap ((bs.length : Int) - 1) = (bs.length : Int) - 1 := IntWalk.i64_in _ (by omega)
    have e2 : IntKind.i64.wrap (((bs.length : Int) - 1) / 16 - (safe : Int) / 16) = ((bs.length : Int) - 1) / 16 - (safe : Int) / 16 := IntWalk.i64_in _ (by omega)
    have e3 : IntKind.i64.wrap (((bs.length : Int) - 1) / 16 - (safe : Int) / 16 + 1) = ((bs.length : Int) - 1) / 16 - (safe : Int) / 16 + 1 := IntWalk.i64_in _ (by omega)
    have b1 : 0 ≤ (bs.length : Int) - 1 := by omega
    have b2 : (bs.length : Int) - 1 ≤ 9223372036854775807 := by omega
    have b3 : (0 : Int) ≤ (safe : Int) := by omega
    have b4 : (safe : Int) ≤ 9223372036854775807 := by omega
    go_region_held3 (fun w' => w'.cell? ⟨F, 1, none⟩ = some (.int .i64 (safe : Int))) (go_keep)
       (first | (go_at_call 24; refine (len_any F v bs safe _ hfd).mono ?_; rintro e w' ⟨rfl, rfl⟩) | (go_at_call 59; refine (sector_any _ _ (by omega) (by omega)).mono ?_; rintro e w' ⟨rfl, rfl⟩))
    all_goals
      go_wp2
      go_ret
      refine ⟨ret_int ?_, 1, rfl⟩
      rw [HS.out]
      omega
def Where (w : World) (v v' : Value) : Prop := v'.ownBlock = v.ownBlock ∨ ∃ g, v'.ownBlock = some g ∧ w.heap.size ≤ g
set_option maxHeartbeats 1000000 in
theorem append_yes (F : Nat) (v : Value) (bs : List UInt8) (safe : Nat) (a : Option Addr) (len cap : Nat) (more : List UInt8) (w : World) (hf : FileAt w F v bs safe) (hlen : len = more.length) (hs : Src w (.slice a len cap) len (more.map bv)) (h : bs.length + len ≤ 1048576) :
    Calls Try.prog 52 #[.pointer (some ⟨F, 0, none⟩), .slice a len cap] w fun e w' => ∃ v', e = .returned (.bool true) ∧ FileAt w' F v' (bs ++ more) safe ∧ Chg (FP F v) w w' ∧ Where w v v' := by
  obtain ⟨i0, hi, hz0, hz1, hz2⟩ := info_parts Try.info_u8
  obtain ⟨c0, c1, f0, f1⟩ := hf.cells
  obtain ⟨va, vcap, rfl, hnil0, hform, _⟩ := owns_form hf.2.1
  have HL := Lib.hid hlen
  have HF := Lib.hid hf
  have hFw := hf.lt.1
  have hown := hf.2.1
  have h4 := hf.2.2.2
  clear hlen hf hnil0 hform
  go_enter Try.func52, Try.ntmps52
  go_wp2_with (at_builtin; refine wpList_append_src _ rfl (.tmp 22) (.tmp 23) 38 rfl (F + 1) 5 i0 (.int .u8 0) 1 1 Try.underlying38 hi hz0 hz1 hz2 rfl (by decide) _ _ _ rfl hown _ len (more.map bv) rfl (by simp [HL.out]) hs (bv_one more) ?c1 ?c2 ?c3 ?_)
  case c1 => unfold maxLen; omega
  case c2 => omega
  case c3 => omega
  intro v' w2 hown' hold hgrow hwhere hnil
  have hFo : (Value.slice va bs.length vcap).ownBlock ≠ some F := fun h => by have := (HF.out.lt.2 F h).1; omega
  have hF0 : w2.heap[F]? = some (.cells #[.slice va bs.length vcap, .int .i64 (safe : Int)] 100 (0, 0)) :=
    (hgrow.block F hFw (fun h => hFo h.symm)).trans HF.out.1
  obtain ⟨a', c', rfl, _, _, _⟩ := owns_form hown'
  have d0 : w2.cell? ⟨F, 0, none⟩ = some (.slice va bs.length vcap) := by rw [cell_of_row w2 _ 0 _ _ _ hF0]; rfl
  have g0 : w2.frozen? ⟨F, 0, none⟩ = false := frozen_of_row w2 _ 0 _ _ hF0
  have H0 := Lib.hid hF0
  have HO := Lib.hid hown'
  have HG := Lib.hid hgrow
  have HW := Lib.hid hwhere
  clear hF0 hold hgrow hwhere hnil hown' hs hown c0 c1 f0 f1 hFo
  go_wp2
  go_ret
  refine ⟨.slice a' (bs.length + len) c', rfl, ⟨two_set0 H0.out, ?_, ?_, ?_⟩, ?_, ?_⟩
  · have h2 : w2.ownsRow (F + 1) 5 1 (.slice a' (bs.length + len) c') (bs ++ more).length ((bs ++ more).map bv) := by
      rw [List.length_append, List.map_append, ← HL.out]; exact HO.out
    refine (Chg.of_setCell w2 ⟨F, 0, none⟩ _).owns h2 ?_
    intro k hk h
    have := (HO.out.lt k hk).1
    have h2 : k = F := h
    omega
  · rw [List.length_append]; have := HF.out.2.2.1; omega
  · rw [List.length_append, ← HL.out]; exact h
  · exact ((Chg.of_grown HG.out).mono (fun k _ h => .inr h)).trans ((Chg.of_setCell w2 ⟨F, 0, none⟩ _).mono (fun k _ h => .inl h))
  · rcases HW.out with h | h
    · exact .inl h
    · exact .inr ⟨_, h, Nat.le_refl _⟩
set_option maxHeartbeats 1000000 in
theorem bytes_any (F : Nat) (v : Value) (bs : List UInt8) (safe : Nat) (w : World) (hf : FileAt w F v bs safe) :
    Calls Try.prog 23 #[.pointer (some ⟨F, 0, none⟩)] w fun e w' => ∃ v', e = .returned v' ∧ w'.ownsRow w.heap.size 5 1 v' bs.length (bs.map bv) ∧ Below w.heap.size w w' := by
  obtain ⟨i0, hi, hz0, hz1, hz2⟩ := info_parts Try.info_u8
  obtain ⟨c0, c1, f0, f1⟩ := hf.cells
  obtain ⟨va, vcap, rfl, hnil0, hform, _⟩ := owns_form hf.2.1
  have HF := Lib.hid hf
  have hFw := hf.lt.1
  have hown := hf.2.1
  have h4 := hf.2.2.2
  clear hf hnil0 hform
  go_enter Try.func23, Try.ntmps23
  go_wp2_with (at_make; refine wpList_make_full _ rfl _ _ 38 rfl w.heap.size 5 i0 (.int .u8 0) 1 Try.underlying38 hi hz0 hz1 .i64 .i64 _ _ bs.length rfl rfl rfl rfl ?c1 ?c2 ?c3 ?_)
  case c1 => rw [hz2]; omega
  case c2 => unfold maxLen; omega
  case c3 => exact Nat.le_refl _
  intro w1 hnew hgrow
  have hbel : Below w.heap.size w w1 := (Below.refl _ _).grown hgrow (Nat.le_refl _) (fun k hk => by cases hk)
  have hown1 := (Chg.of_grown hgrow).owns hown (fun k _ h => by cases h)
  have d0 : w1.cell? ⟨F, 0, none⟩ = some (.slice va bs.length vcap) := (hbel.cell (p := ⟨F, 0, none⟩) hFw).trans c0
  have hgrown := owns_full hnew
  have hml := hnew.1
  have HN := Lib.hid hgrown
  have HO := Lib.hid hown1
  have HM := Lib.hid hml
  have HB := Lib.hid hbel
  clear hgrown hown hown1 hml hbel hnew hgrow c0 c1 f0 f1
  generalize (madeCells #[Value.int IntKind.u8 0] bs.length) = zs at *
  go_wp2_with (with_reducible refine wpList_copy_splice rfl (.tmp 12) (.tmp 16) 38 38 rfl 5 Try.underlying38 (by kernel_rfl) (some ⟨w.heap.size, 0, none⟩) va bs.length bs.length bs.length vcap rfl rfl w.heap.size 0 zs.toList 5 ?d1 (bs.map bv) ?d2 ?d3 ?d4 (bv_one bs) w.heap.size w HB.out (Nat.le_refl _) ?_)
  case d1 => simpa using HN.out
  case d2 => simp
  case d3 =>
    intro h0
    rcases Src.of_owns HO.out with ⟨hv, hn, _⟩ | ⟨ad, c, hv, hc⟩
    · omega
    · exact ⟨ad, by cases hv; rfl, fun j u hj => hc j (bv u) (by simp [hj])⟩
  case d4 => have := HM.out; simp at this ⊢; omega
  intro w2 hcp hb2
  have hlen : (List.map bv bs).length = bs.length := by simp
  have hsp : splice zs.toList 0 (List.map bv bs) = List.map bv bs := by
    have := HM.out
    simp only [splice, List.take_zero, List.nil_append]
    rw [List.drop_eq_nil_of_le (by simp at this ⊢; omega), List.append_nil]
  have HR := Lib.hid (owns_block (w := w2) (B := w.heap.size) (e := 5) (g := w.heap.size) (n := bs.length) (xs := bs.map bv) (by rw [← hsp]; exact hcp) (Nat.le_refl _) hlen (by unfold maxLen; omega))
  clear hcp hlen hsp
  go_wp2
  go_ret
  exact ⟨_, rfl, HR.out, hb2⟩
def cutAt (cuts : List Int) (k : Nat) : Int := cuts.getD k 0
def crashTo (bs : List UInt8) (safe n : Nat) (cuts : List Int) (m : Nat) : List UInt8 :=
  (List.range n).map fun i => if safe ≤ i ∧ i < m ∧ cutAt cuts (i / 16 - safe / 16) ≤ ((i % 16 : Nat) : Int) then 0 else bs.getD i 0
def crashN (len safe : Nat) (size : Int) : Nat := safe + (max 0 (min size ((len : Int) - safe))).toNat
def crash (bs : List UInt8) (safe : Nat) (size : Int) (cuts : List Int) : List UInt8 := crashTo bs safe (crashN bs.length safe size) cuts (crashN bs.length safe size)
end Go.Proofs.Ytnmlcfjljeccnaa
/- The contract of inode.File.Crash. -/
set_option linter.unusedSimpArgs false
set_option linter.unusedVariables false
set_option maxRecDepth 100000
set_option maxHeartbeats 4000000
namespace Go.Proofs.Ytnmlcfjljeccnaa
open Go.RowKit
theorem crashTo_length (bs : List UInt8) (safe n : Nat) (cuts : List Int) (m : Nat) : (crashTo bs safe n cuts m).length = n := by simp [crashTo]
theorem crashTo_get {bs : List UInt8} {safe n : Nat} {cuts : List Int} {m i : Nat} (h : i < n) : (crashTo bs safe n cuts m)[i]? = some (if safe ≤ i ∧ i < m ∧ cutAt cuts (i / 16 - safe / 16) ≤ ((i % 16 : Nat) : Int) then 0 else bs.getD i 0) := by
  simp [crashTo, h]
theorem crashTo_start {bs : List UInt8} {safe n : Nat} {cuts : List Int} (h : n ≤ bs.length) : crashTo bs safe n cuts safe = bs.take n := by
  apply List.ext_getElem?
  intro i
  by_cases hi : i < n
  · rw [crashTo_get hi, if_neg (by omega), List.getElem?_take, if_pos hi, List.getElem?_eq_getElem (by omega), List.getD_eq_getElem?_getD, List.getElem?_eq_getElem (by omega)]; rfl
  · rw [List.getElem?_eq_none (by rw [crashTo_length]; omega), List.getElem?_eq_none (by rw [List.length_take]; omega)]
theorem crashTo_keep {bs : List UInt8} {safe n : Nat} {cuts : List Int} {k : Nat} (h : ¬ cutAt cuts (k / 16 - safe / 16) ≤ ((k % 16 : Nat) : Int)) : crashTo bs safe n cuts (k + 1) = crashTo bs safe n cuts k := by
  apply List.ext_getElem?
  intro i
  by_cases hi : i < n
  · rw [crashTo_get hi, crashTo_get hi]
    by_cases hik : i = k
    · subst hik; rw [if_neg (fun hh => h hh.2.2), if_neg (fun hh => h hh.2.2)]
    · congr 1
      by_cases hc : safe ≤ i ∧ i < k ∧ cutAt cuts (i / 16 - safe / 16) ≤ ((i % 16 : Nat) : Int)
      · rw [if_pos ⟨hc.1, by omega, hc.2.2⟩, if_pos hc]
      · rw [if_neg (fun hh => hc ⟨hh.1, by omega, hh.2.2⟩), if_neg hc]
  · rw [List.getElem?_eq_none (by rw [crashTo_length]; omega), List.getElem?_eq_none (by rw [crashTo_length]; omega)]
theorem crashTo_cut {bs : List UInt8} {safe n : Nat} {cuts : List Int} {k : Nat} (hs : safe ≤ k) (hn : k < n) (h : cutAt cuts (k / 16 - safe / 16) ≤ ((k % 16 : Nat) : Int)) : crashTo bs safe n cuts (k + 1) = (crashTo bs safe n cuts k).set k 0 := by
  apply List.ext_getElem?
  intro i
  by_cases hi : i < n
  · rw [crashTo_get hi]
    by_cases hik : i = k
    · subst hik
      rw [if_pos ⟨hs, by omega, h⟩, List.getElem?_set_self (by rw [crashTo_length]; omega)]
    · rw [List.getElem?_set_ne (by omega), crashTo_get hi]
      congr 1
      by_cases hc : safe ≤ i ∧ i < k ∧ cutAt cuts (i / 16 - safe / 16) ≤ ((i % 16 : Nat) : Int)
      · rw [if_pos ⟨hc.1, by omega, hc.2.2⟩, if_pos hc]
      · rw [if_neg (fun hh => hc ⟨hh.1, by omega, hh.2.2⟩), if_neg hc]
  · rw [List.getElem?_eq_none (by rw [crashTo_length]; omega), List.getElem?_eq_none (by rw [List.length_set, crashTo_length]; omega)]
set_option maxRecDepth 100000 in
set_option maxHeartbeats 8000000 in
theorem crash_any (F : Nat) (v : Value) (bs : List UInt8) (safe : Nat) (size : Int) (ca : Option Addr) (clen ccap : Nat) (cuts : List Int) (w : World) (hf : FileAt w F v bs safe) (hsz : -9223372036854775808 ≤ size ∧ size ≤ 9223372036854775807)
    (hcl : clen = cuts.length) (hcm : clen ≤ 9223372036854775807) (hcb : 0 < clen → ∃ b off, ca = some ⟨b, off, none⟩ ∧ b < w.heap.size ∧ ¬ FP F v b ∧ ∀ i (h : i < cuts.length), w.cell? ⟨b, off + i, none⟩ = some (.int .i64 cuts[i])) :
    Calls Try.prog 53 #[.pointer (some ⟨F, 0, none⟩), .int .i64 size, .slice ca clen ccap] w fun e w' => ∃ v', e = .returned (.int .i64 (min (sectorsN (crash bs safe size cuts).length safe) clen : Nat)) ∧
      FileAt w' F v' (crash bs safe size cuts) (crash bs safe size cuts).length ∧ Chg (FP F v) w w' ∧ v'.ownBlock = v.ownBlock := by
  obtain ⟨c0, c1, f0, f1⟩ := hf.cells
  obtain ⟨va, vcap, rfl, hnil0, hform, hcap1, hcap2⟩ := owns_form hf.2.1
  have HF := Lib.hid hf
  have hFw := hf.lt.1
  have hown := hf.2.1
  have h3 := hf.2.2.1
  have h4 := hf.2.2.2
  clear hf hnil0 hform
  go_enter Try.func53, Try.ntmps53
  go_wp2_with fail
  obtain ⟨n, hn⟩ : ∃ n : Nat, n = crashN bs.length safe size := ⟨_, rfl⟩
  have e1 : IntKind.i64.wrap ((bs.length : Int) - (safe : Int)) = (bs.length : Int) - (safe : Int) := IntWalk.i64_in _ (by omega)
  have hnb : n ≤ bs.length := by rw [hn]; unfold crashN; omega
  have hns : safe ≤ n := by rw [hn]; unfold crashN; omega
  have HN := Lib.hid hn
  clear hn
  have hb1 : (0 : Int) ≤ (n : Int) := by omega
  have hb2 : (n : Int) ≤ (vcap : Int) := by omega
  have hrow : w.ownsRow (F + 1) 5 1 (.slice va n vcap) n ((crashTo bs safe n cuts safe).map bv) := by
    have := owns_take hown (m := n) hnb
    rw [Nat.mul_one, ← List.map_take] at this
    rw [crashTo_start hnb]; exact this
  have hfo : (Value.slice va bs.length vcap).ownBlock = (Value.slice va n vcap).ownBlock := by cases va <;> rfl
  have hFo : ∀ k, (Value.slice va n vcap).ownBlock = some k → F + 1 ≤ k ∧ k < w.heap.size := hrow.lt
  have HFO := Lib.hid hfo
  have HROW := Lib.hid hrow
  have HCB := Lib.hid hcb
  have HCL := Lib.hid hcl
  have hvcap : vcap ≤ maxLen := hcap2
  unfold maxLen at hcap2
  have hclb : clen ≤ 9223372036854775807 := hcm
  clear hown hrow hfo hcb hcl
  have hst : (bs.length : Int) - (safe : Int) < size ∨ (¬ (bs.length : Int) - (safe : Int) < size ∧ 0 < size) ∨ (¬ (bs.length : Int) - (safe : Int) < size ∧ ¬ 0 < size) := by omega
  rcases hst with hs1 | ⟨hs1, hs0⟩ | ⟨hs1, hs0⟩
  case' inl =>
    by_cases hs2 : safe < bs.length
    case' pos =>
      have hs3 : (safe : Int) < (bs.length : Int) := by omega
      have hs4 : 0 < (bs.length : Int) - (safe : Int) := by omega
      have e2 : IntKind.i64.wrap ((safe : Int) + ((bs.length : Int) - (safe : Int))) = (n : Int) := by rw [IntWalk.i64_in _ (by omega), HN.out]; unfold crashN; omega
      have e3 : IntKind.i64.wrap ((bs.length : Int)) = (n : Int) := by rw [IntWalk.i64_in _ (by omega), HN.out]; unfold crashN; omega
    case' neg =>
      have hs3 : ¬ (safe : Int) < (bs.length : Int) := by omega
      have hs4 : ¬ 0 < (bs.length : Int) - (safe : Int) := by omega
      have e2 : IntKind.i64.wrap ((safe : Int) + 0) = (n : Int) := by rw [IntWalk.i64_in _ (by omega), HN.out]; unfold crashN; omega
      have e3 : IntKind.i64.wrap ((safe : Int)) = (n : Int) := by rw [IntWalk.i64_in _ (by omega), HN.out]; unfold crashN; omega
      have hns2 : n ≤ safe := by rw [HN.out]; unfold crashN; omega
  case' inr.inl =>
    have e2 : IntKind.i64.wrap ((safe : Int) + size) = (n : Int) := by rw [IntWalk.i64_in _ (by omega), HN.out]; unfold crashN; omega
  case' inr.inr =>
    have e2 : IntKind.i64.wrap ((safe : Int) + 0) = (n : Int) := by rw [IntWalk.i64_in _ (by omega), HN.out]; unfold crashN; omega
    have e3 : IntKind.i64.wrap ((safe : Int)) = (n : Int) := by rw [IntWalk.i64_in _ (by omega), HN.out]; unfold crashN; omega
    have hns2 : n ≤ safe := by rw [HN.out]; unfold crashN; omega
  all_goals
    go_still_tail 26, (by kernel_rfl)
    change wpList _ _ _ _ _ w.drew
    go_wp2_with fail
    have hstart : FileAt (w.setCell ⟨F, 0, none⟩ (.slice va n vcap)).drew F (.slice va n vcap) (crashTo bs safe n cuts safe) safe := by
      refine ⟨two_set0 HF.out.1, ?_, by rw [crashTo_length]; exact hns, by rw [crashTo_length]; omega⟩
      rw [crashTo_length]
      refine (Chg.of_setCell w ⟨F, 0, none⟩ _).owns HROW.out ?_
      intro k hk h
      have := (hFo k hk).1
      have h2 : k = F := h
      omega
    have hchg : Chg (FP F (.slice va n vcap)) w (w.setCell ⟨F, 0, none⟩ (.slice va n vcap)).drew := ((Chg.of_setCell w ⟨F, 0, none⟩ _).mono (fun k _ h => .inl h)).trans (Chg.drew _ _)
    clear c0 c1 f0 f1
    go_loopw [7] (fun i wr => ∃ k : Nat, safe ≤ k ∧ k ≤ n ∧ i = .int .i64 k ∧ FileAt wr F (.slice va n vcap) (crashTo bs safe n cuts k) safe ∧ Chg (FP F (.slice va n vcap)) w wr) (fun i _ => n - (intOf i).toNat)
    case atStart => exact ⟨safe, Nat.le_refl _, hns, rfl, hstart, hchg⟩
    case round =>
      obtain ⟨k, hsk, hkn, rfl, hfk, hck⟩ := hrel
      obtain ⟨c0, c1, f0, f1⟩ := hfk.cells
      by_cases hlt : k < n
      · first
        | (exfalso; omega)
        | skip
          have hrowk := hfk.2.1
          rw [crashTo_length] at hrowk
          obtain ⟨va', vc', hv, hnone, hsome, _, _⟩ := owns_form hrowk
          cases hv
          cases va with
          | none => exact absurd (hnone rfl).1 (by omega)
          | some x =>
            obtain ⟨hx, _, hgl⟩ := hsome x rfl
            obtain ⟨g, go', gs⟩ := x
            cases hx
            have hfz := hrowk.frozenAt k
            have hcl : wr.cell? ⟨g, k, none⟩ = some (bv ((crashTo bs safe n cuts k).getD k 0)) := by
              rw [hrowk.cellAt k (by omega), List.getElem?_map, List.getD_eq_getElem?_getD, List.getElem?_eq_getElem (by rw [crashTo_length]; exact hlt)]; rfl
            have hkz : (k : Int) < (n : Int) := by omega
            have hdk : k / 16 ≤ 1048576 := by omega
            have hdd : safe / 16 ≤ k / 16 := Nat.div_le_div_right hsk
            have q1 : IntKind.i64.wrap ((k : Int) / 16 - (safe : Int) / 16) = ((k / 16 - safe / 16 : Nat) : Int) := by rw [IntWalk.i64_in _ (by omega)]; omega
            have HFK := Lib.hid hfk
            have HR := Lib.hid hrowk
            clear hfk hrowk hnone hsome
            by_cases hin : k / 16 - safe / 16 < clen
            · obtain ⟨cb, coff, rfl, hcb, hcfp, hcc⟩ := HCB.out (by omega)
              have hcut := (hck.cell (p := ⟨cb, coff + (k / 16 - safe / 16), none⟩) hcb (fun h => hcfp (by rw [FP, HFO.out]; exact h))).trans (hcc _ (by rw [← HCL.out]; exact hin))
              have hcv : cutAt cuts (k / 16 - safe / 16) = cuts[k / 16 - safe / 16]'(by rw [← HCL.out]; exact hin) := by
                unfold cutAt; rw [List.getD_eq_getElem?_getD, List.getElem?_eq_getElem (by rw [← HCL.out]; exact hin)]; rfl
              rw [← hcv] at hcut
              have HK := Lib.hid (fun (h : ¬ cutAt cuts (k / 16 - safe / 16) ≤ ((k % 16 : Nat) : Int)) => crashTo_keep (bs := bs) (n := n) h)
              have HC := Lib.hid (fun (h : cutAt cuts (k / 16 - safe / 16) ≤ ((k % 16 : Nat) : Int)) => crashTo_cut (bs := bs) hsk hlt h)
              clear hcv hcc
              generalize cutAt cuts (k / 16 - safe / 16) = ct at *
              generalize k / 16 - safe / 16 = kk at *
              go_wp2_with fail
              go_region_held3 (fun w' => w'.cell? ⟨F, 1, none⟩ = some (.int .i64 (safe : Int))) (go_keep)
                (first | (go_at_call 59; refine (sector_any _ _ (by omega) (by omega)).mono ?_; rintro e w' ⟨rfl, rfl⟩))
              go_wp2_with fail
              · have hcc2 : ct ≤ ((k % 16 : Nat) : Int) := by
                  have : ct ≤ (k : Int) % 16 := by assumption
                  omega
                have hst := HFK.out.store k 0
                go_roundw
                case rel => exact ⟨k + 1, by omega, by omega, by go_num, by rw [HC.out hcc2]; exact hst.1, hck.trans (hst.2.trans (Chg.drew _ _))⟩
                case measure => simp [intOf]; omega
              · have hcc2 : ¬ ct ≤ ((k % 16 : Nat) : Int) := by
                  have : (k : Int) % 16 < ct := by assumption
                  omega
                go_roundw
                case rel => exact ⟨k + 1, by omega, by omega, by go_num, by rw [HK.out (by omega)]; exact HFK.out, hck.trans (Chg.drew _ _)⟩
                case measure => simp [intOf]; omega
            · have hcv : cutAt cuts (k / 16 - safe / 16) = 0 := by
                unfold cutAt; rw [List.getD_eq_getElem?_getD, List.getElem?_eq_none (by rw [← HCL.out]; omega)]; rfl
              have HC := Lib.hid (crashTo_cut (bs := bs) hsk hlt (by rw [hcv]; omega : cutAt cuts (k / 16 - safe / 16) ≤ ((k % 16 : Nat) : Int)))
              clear hcv
              generalize k / 16 - safe / 16 = kk at *
              go_wp2_with fail
              go_region_held3 (fun w' => w'.cell? ⟨F, 1, none⟩ = some (.int .i64 (safe : Int))) (go_keep)
                (first | (go_at_call 59; refine (sector_any _ _ (by omega) (by omega)).mono ?_; rintro e w' ⟨rfl, rfl⟩))
              go_wp2_with fail
              have hst := HFK.out.store k 0
              go_roundw
              case rel => exact ⟨k + 1, by omega, by omega, by go_num, by rw [HC.out]; exact hst.1, hck.trans (hst.2.trans (Chg.drew _ _))⟩
              case measure => simp [intOf]; omega
      · obtain rfl : k = n := by omega
        have HE := Lib.hid (show crashTo bs safe k cuts k = crash bs safe size cuts by unfold crash; rw [← HN.out])
        have hfe := hfk
        rw [HE.out] at hfe
        have HL := Lib.hid (show (crash bs safe size cuts).length = k by unfold crash; rw [crashTo_length, HN.out])
        clear hfk
        go_wp2_with fail
        refine (sectors_any F _ _ safe wr hfe).mono ?_
        rintro e w2 ⟨rfl, m, rfl⟩
        have hfm := hfe.drewN m
        clear hfe c0 c1 f0 f1
        by_cases hcs : (clen : Int) < (sectorsN (crash bs safe size cuts).length safe : Int)
        all_goals
          go_wp2_with fail
          refine (sync_any F _ _ safe _ hfm).mono ?_
          rintro e w3 ⟨rfl, hf3, hc3⟩
          go_wp2
          go_ret
          refine ⟨.slice va k vcap, ret_int (by omega), hf3, ?_, HFO.out.symm⟩
          refine Chg.mono (S := FP F (.slice va k vcap)) ((hck.trans (Chg.drewN _ _ m)).trans (hc3.mono fun q _ h => .inl h)) ?_
          intro q _ h
          rw [FP, HFO.out]; exact h
end Go.Proofs.Ytnmlcfjljeccnaa
/- repertorylaw08.awake, and the walk of InodeFull. -/
set_option linter.unusedSimpArgs false
set_option linter.unusedVariables false
set_option maxRecDepth 100000
set_option maxHeartbeats 4000000
namespace Go.Proofs.Ytnmlcfjljeccnaa
open Go.RowKit
theorem conv_src {w : World} {v : Value} {bs : List UInt8} (h : Src w v bs.length (bs.map bv)) : (convert 38 9 v).run Try.prog w = .ok (.string ⟨bs.toArray⟩) w := by
  rcases h with ⟨rfl, hn, _⟩ | ⟨ad, c, rfl, hc⟩
  · have : bs = [] := List.eq_nil_of_length_eq_zero hn
    subst this
    exact run_convert_bytes_nil (P := Try.prog) w 38 5 Try.underlying38 Try.underlying5 0 0 9 Try.underlying9
  · refine run_convert_bytes_back (P := Try.prog) w 38 9 5 ad c bs Try.underlying38 Try.underlying5 Try.underlying9 ?_
    intro j hj
    exact hc j _ (by simp [hj, bv])
theorem src_new (w : World) (bs : List UInt8) (C : Array Value) (e : TypeId) (fr : Nat × Nat) (b n c : Nat) (hC : C = (bs.map bv).toArray) (hb : b = w.heap.size) : Src (w.alloc (.cells C e fr)) (.slice (some ⟨b, 0, none⟩) n c) n (bs.map bv) := by
  subst hC hb
  refine .inr ⟨_, c, rfl, fun j u hj => ?_⟩
  rw [Addr.add_lit]
  refine (World.cell?_alloc_mark w _ _ _ _).trans ?_
  simpa using hj
set_option maxRecDepth 100000 in
set_option maxHeartbeats 2000000 in
theorem awake08 (w : World) : Calls Try.prog 20 #[] w fun e w' => e = .returned (.bool true) ∧ Below w.heap.size w w' := by
  have kc := fun (w : World) (C : Array Value) (n c : Nat) => Lib.run_convert_bytes_const (P := Try.prog) w 38 5 C n c Try.underlying38 Try.underlying5
  go_enter Try.func20, Try.ntmps20
  go_wp2_with fail
  go_fit (new_any (some ⟨w.heap.size, 0, none⟩) 14 14 [97, 97, 97, 97, 97, 97, 97, 97, 97, 97, 97, 97, 97, 97] _ rfl (src_new _ _ _ _ _ _ _ _ rfl rfl) (by omega))
  rintro e w1 ⟨v1, rfl, hf1, hb1⟩
  have hz1 := hb1.size
  simp at hz1 hf1 hb1 ⊢
  have B1 : Below w.heap.size w w1 := ((Below.refl _ _).alloc (Nat.le_refl _) _).trans (hb1.mono (by omega))
  have hF1 := hf1.lt.1
  go_wp2_with fail
  go_fit (append_yes (w.heap.size + 1) v1 _ 14 (some ⟨w1.heap.size, 0, none⟩) 4 4 [98, 99, 100, 101] _ (hf1.alloc _) rfl (src_new _ _ _ _ _ _ _ _ rfl rfl) (by simp))
  rintro e w2 ⟨v2, rfl, hf2, hc2, _⟩
  have hz2 := hc2.size
  simp at hz2
  have B2 : Below w.heap.size w w2 := (B1.alloc (by omega) _).trans (hc2.below (by simp; omega) (fun k _ hk => by have := (hf1.fp k hk).1; omega))
  clear hc2 hb1
  simp only [List.cons_append, List.nil_append] at hf2
  go_wp2_with fail
  refine (sectors_any _ _ _ _ _ hf2).mono ?_
  rintro e w' ⟨rfl, m, rfl⟩
  rw [show sectorsN ([97, 97, 97, 97, 97, 97, 97, 97, 97, 97, 97, 97, 97, 97, 98, 99, 100, 101] : List UInt8).length 14 = 2 from rfl]
  have hf3 := hf2.drewN m
  have B3 : Below w.heap.size w (w2.drewN m) := B2.trans (Chg.below (Chg.drewN (fun _ => False) w2 m) (Nat.le_trans (by omega) hz2) (fun k _ h => h.elim))
  have hz3 : w2.heap.size ≤ (w2.drewN m).heap.size := Nat.le_refl _
  generalize w2.drewN m = w3 at *
  clear hf2 B2
  go_wp2_with fail
  go_fit (crash_any (w.heap.size + 1) v2 _ 14 4 (some ⟨w3.heap.size, 0, none⟩) 2 2 [15, 16] _ (hf3.alloc _) (by omega) rfl (by omega) (fun _ => ⟨w3.heap.size, 0, rfl, by simp, fun hk => by have := (hf3.fp _ hk).2; omega, fun i hi => (World.cell?_alloc_mark w3 _ _ _ _).trans (by match i, hi with | 0, _ => rfl | 1, _ => rfl)⟩))
  rintro e w4 ⟨v4, rfl, hf4, hc4, _⟩
  rw [show crash [97, 97, 97, 97, 97, 97, 97, 97, 97, 97, 97, 97, 97, 97, 98, 99, 100, 101] 14 4 [15, 16] = [97, 97, 97, 97, 97, 97, 97, 97, 97, 97, 97, 97, 97, 97, 98, 0, 100, 101] from by decide +kernel] at hf4 ⊢
  rw [show min (sectorsN ([97, 97, 97, 97, 97, 97, 97, 97, 97, 97, 97, 97, 97, 97, 98, 0, 100, 101] : List UInt8).length 14) 2 = 2 from rfl]
  rw [show ([97, 97, 97, 97, 97, 97, 97, 97, 97, 97, 97, 97, 97, 97, 98, 0, 100, 101] : List UInt8).length = 18 from rfl] at hf4
  have hz4 := hc4.size
  simp at hz4
  have B4 : Below w.heap.size w w4 := (B3.alloc (by omega) _).trans (hc4.below (by simp; omega) (fun k _ hk => by have := (hf3.fp k hk).1; omega))
  clear hc4 hf3 B3 hf1
  go_wp2_with fail
  refine (bytes_any _ _ _ _ _ hf4).mono ?_
  rintro e w5 ⟨v5, rfl, ho5, hb5⟩
  have hcv := conv_src (Src.of_owns ho5)
  have B5 : Below w.heap.size w w5 := B4.trans (hb5.mono (by omega))
  have hf5 := hf4.keep (Chg.of_below hb5 (fun _ => False)) (fun _ _ h => h)
  clear hf4 ho5 hb5
  go_wp2_with fail
  refine (safe_any _ _ _ _ _ hf5).mono ?_
  rintro e w' ⟨rfl, rfl⟩
  go_wp2
  go_ret
  exact ⟨rfl, B5⟩
end Go.Proofs.Ytnmlcfjljeccnaa
/- The law of layer 8: the contract of an act, the chapter's example. -/
set_option linter.unusedSimpArgs false
set_option linter.unusedVariables false
set_option maxRecDepth 100000
set_option maxHeartbeats 4000000
namespace Go.Proofs.Ytnmlcfjljeccnaa.A
open Go
theorem bytes_u8 {n : Nat} {cs : List C} (h : isBytesC cs) (hl : cs.length = n) : ∀ q, q < n → okK (.int .u8) (cellAt cs q) := fun q hq => by
  obtain ⟨b, hb⟩ := h _ (List.getElem_mem (show q < cs.length by omega))
  unfold cellAt
  rw [List.getD_eq_getElem?_getD, List.getElem?_eq_getElem (by omega), Option.getD_some, hb]
  exact ⟨_, rfl⟩
theorem bytes_vals {cs : List C} (h : isBytesC cs) : ∀ c ∈ cs, ∃ v, c = .val v := fun c hc => by obtain ⟨b, hb⟩ := h c hc; exact ⟨_, hb⟩
theorem bytes_at {cs : List C} (h : isBytesC cs) {q : Nat} (hq : q < cs.length) : ∃ b : UInt8, cellAt cs q = vU (b.toNat : Int) := by
  unfold cellAt
  rw [List.getD_eq_getElem?_getD, List.getElem?_eq_getElem hq]
  exact h _ (List.getElem_mem hq)
theorem crC_bytes {n : Nat} {s sz : Int} {cs ks : List C} (hm : crN n s sz ≤ cs.length) (h : isBytesC cs) : isBytesC (crC n s sz cs ks) := by
  intro c hc
  obtain ⟨q, hq, rfl⟩ := List.mem_map.1 hc
  have hq := List.mem_range.1 hq
  unfold crAt; split
  · exact ⟨0, rfl⟩
  · exact bytes_at h (by omega)
theorem wrap_u8 (n : Int) : ∃ b : UInt8, IntKind.wrap .u8 n = (b.toNat : Int) := by
  have h : 0 ≤ IntKind.wrap .u8 n ∧ IntKind.wrap .u8 n < 256 := by
    simp [IntKind.wrap, IntKind.bits, IntKind.signed]
    omega
  refine ⟨UInt8.ofNat (IntKind.wrap .u8 n).toNat, ?_⟩
  rw [UInt8.toNat_ofNat_of_lt' (by show (IntKind.wrap .u8 n).toNat < 256; omega)]
  omega
theorem flC_bytes {n : Nat} {cs : List C} {bit : Int} (h : isBytesC cs) : isBytesC (flC n cs bit) := by
  unfold flC
  split
  · intro c hc
    unfold setC at hc
    rcases List.mem_append.1 hc with hc | hc
    · rcases List.mem_append.1 hc with hc | hc
      · exact h c (List.mem_of_mem_take hc)
      · obtain rfl := List.mem_singleton.1 hc
        obtain ⟨b, hb⟩ := wrap_u8 (((BitVec.ofInt (IntKind.bits .u8) (gi (cellAt cs (bit / 8).toNat))) ^^^ (BitVec.ofInt (IntKind.bits .u8) (arithI .shl .u8 1 (bit % 8)))).toNat : Nat)
        exact ⟨b, by rw [← hb]; rfl⟩
    · exact h c (List.mem_of_mem_drop hc)
  · exact h
theorem doN_le {n bn s : Nat} {kd an : Int} (h1 : s ≤ n) : doN n (zN s) kd bn an ≤ n + bn ∧ doS n s kd an ≤ doN n (zN s) kd bn an := by
  have hz := zN_eq s
  obtain ⟨m0, m1⟩ := crN_le (n := n) (s := zN s) (sz := an) (by omega) (by omega)
  unfold doN doS
  rw [← hz]
  split
  · omega
  · split
    · omega
    · split <;> omega
theorem doC_ok {n bn s : Nat} {kd an : Int} {cs bs ks : List C} (h1 : s ≤ n) (hl : cs.length = n) (hb : bs.length = bn) (h : isBytesC cs) (hbb : isBytesC bs) : (doC n (zN s) kd cs bs ks an).length = doN n (zN s) kd bn an ∧ isBytesC (doC n (zN s) kd cs bs ks an) := by
  have hz := zN_eq s
  obtain ⟨m0, m1⟩ := crN_le (n := n) (s := zN s) (sz := an) (by omega) (by omega)
  unfold doN doC
  split
  · exact ⟨by rw [List.length_append, hl, hb], fun c hc => (List.mem_append.1 hc).elim (h c) (hbb c)⟩
  · split
    · exact ⟨hl, h⟩
    · split
      · exact ⟨crC_len _ _ _ _ _, crC_bytes (by omega) h⟩
      · exact ⟨flC_len hl, flC_bytes h⟩
theorem c_do (n s bn kn : Nat) (cs ds bs ks : List C) (kd an : Int) (h1 : s ≤ n) (h2 : n + bn ≤ 1048576) (hl : cs.length = n) (hd : ds = cs.take s) (hb : bs.length = bn) (hk : ks.length = kn) (hk2 : kn ≤ 140737488355328) (h : isBytesC cs) (hbb : isBytesC bs) (hks : ∀ q, q < kn → okK (.int .i64) (cellAt ks q)) :
    (std Try.prog T).pc 22 [.root (iBox n cs (zN s)), .v true [.sl n cs, .sl s ds], .v true [vI kd, .sl bn bs, vI an, .sl kn ks]]
      (rets [(true, [.st (.sl (doN n (zN s) kd bn an) (doC n (zN s) kd cs bs ks an)), .st (.sl (doS n s kd an) (tkC (doC n (zN s) kd cs bs ks an) (doS n s kd an)))]), (false, [.st (vB true)])]) [iBox (doN n (zN s) kd bn an) (doC n (zN s) kd cs bs ks an) (zN (doS n s kd an)), .none, .none] := by
  refine ⟨enters Try.func22 (by kernel_rfl) (by kernel_rfl), ?_⟩
  have hu := bytes_u8 h hl
  unfold tkC
  by_cases k0 : kd = 0
  · subst k0
    exact pc_do0 n s bn kn cs ds bs ks an h1 h2 hl hd hb (bytes_vals h) (bytes_vals hbb)
  · by_cases k1 : kd = 1
    · subst k1
      exact pc_do1 n s bn kn cs ds bs ks an hl (bytes_vals h)
    · by_cases k2 : kd = 2
      · subst k2
        exact pc_do2 n s bn kn cs ds bs ks an h1 (by omega) hl hd hk hk2 hu hks
      · have eN : doN n (zN s) kd bn an = n := by unfold doN; rw [if_neg k0, if_neg k1, if_neg k2]
        have eC : doC n (zN s) kd cs bs ks an = flC n cs an := by unfold doC; rw [if_neg k0, if_neg k1, if_neg k2]
        have eS : doS n s kd an = s := by unfold doS; rw [if_neg k0, if_neg k1, if_neg k2]
        rw [eN, eC, eS]
        exact pc_do3 n s bn kn cs ds bs ks kd an ⟨k0, k1, k2⟩ h1 (by omega) hl hd hu (bytes_vals (flC_bytes h))
/-! ### the chapter's example -/
theorem pc_awake08 : PC Try.prog T 20 [] (ret1 (.st (vB true))) [] :=
  pc_of_calls rfl fun w S bx vs _ hl _ => by
    have hl0 : vs.length = 0 := hl
    obtain rfl := List.eq_nil_of_length_eq_zero hl0
    exact (awake08 w).mono fun e w' ⟨he, hb⟩ => ⟨he, Chg.of_below hb _⟩
theorem c_awake08 : pc 20 [] (ret1 (.st (vB true))) := ⟨enters Try.func20 (by kernel_rfl) (by kernel_rfl), pc_awake08⟩
end Go.Proofs.Ytnmlcfjljeccnaa.A
