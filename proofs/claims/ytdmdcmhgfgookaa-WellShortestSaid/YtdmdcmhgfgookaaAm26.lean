/- The ghost machine, part 26: what a function gives. -/
import Derived.Test.YtdmdcmhgfgookaaAm25
set_option linter.unusedSimpArgs false
set_option linter.unusedVariables false
set_option maxRecDepth 100000
set_option maxHeartbeats 4000000
namespace Go.Proofs.Ytdmdcmhgfgookaa.A
open Go Go.RowKit
variable {P : Program} {T : TT} {w w' w0 : World} {S S0 : Nat → Prop} {F : Fr} {bx : Nat → Nat} {ph : Nat → Nat → Pv} {a : Act} {st st' : St}

/-- a result's cell that says less than what was found -/
inductive LeRC : RC → RC → Prop
  | refl (rc : RC) : LeRC rc rc
  | nil_own (e : TypeId) : LeRC (.st .nil) (.own e 0 [])
  | nil_sl : LeRC (.st .nil) (.st (.sl 0 []))
inductive LeRow : List RC → List RC → Prop
  | nil : LeRow [] []
  | cons {x y : RC} {l r : List RC} : LeRC x y → LeRow l r → LeRow (x :: l) (y :: r)
theorem LeRow.refl : ∀ l : List RC, LeRow l l
  | [] => .nil
  | x :: l => .cons (.refl x) (LeRow.refl l)
theorem LeRow.len {l r : List RC} (h : LeRow l r) : l.length = r.length := by
  induction h with
  | nil => rfl
  | cons _ _ ih => simp [ih]
theorem LeRow.get {l r : List RC} (h : LeRow l r) : ∀ k (h1 : k < l.length) (h2 : k < r.length), LeRC l[k] r[k] := by
  induction h with
  | nil => intro k h1; simp at h1
  | cons hx _ ih =>
    intro k h1 h2
    cases k with
    | zero => exact hx
    | succ k => exact ih k (by simpa using h1) (by simpa using h2)
theorem LeRC.sound {v : Pv} {x y : RC} (h : LeRC x y) (hx : RCRep T w S v x) : RCRep T w S v y ∧ ((∃ e n c, y = .own e n c) → (∃ e n c, x = .own e n c) ∨ v.v.ownBlock = none) := by
  cases h with
  | refl => exact ⟨hx, fun h => .inl h⟩
  | nil_own e =>
    have hz := crep_nil hx
    exact ⟨⟨[], by rw [hz]; exact World.ownsRow_nil _ _ _ _, rfl, fun k hk => absurd hk (by simp)⟩, fun _ => .inr (by rw [hz]; rfl)⟩
  | nil_sl =>
    have hz := crep_nil hx
    exact ⟨by show CRep w S v.v _; rw [hz]; exact .sl0, fun ⟨_, _, _, h⟩ => by cases h⟩

theorem LeRC.me {x : RC} {f : FuncId} (h : LeRC x (.me f)) : x = .me f := by cases h; rfl

/-- the results' slots -/
def resV (T : TT) (j : J) (st : St) : ResultVar → Option (V × List Prop)
  | .tmp t => some (st.s.getD t .undef, [])
  | .cell a t => loadV T j st t (st.s.getD a .undef)
def resVs (T : TT) (j : J) (st : St) : List ResultVar → Option (List V × List Prop)
  | [] => some ([], [])
  | r :: rs => match resV T j st r, resVs T j st rs with | some (v, o), some (vs, os) => some (v :: vs, o ++ os) | _, _ => none
def isAggV : V → Bool
  | .agg _ => true
  | _ => false
def splitRow : List V → List RC → List (Bool × List RC)
  | [], _ => []
  | v :: vs, row => (isAggV v, row.take (cellsOfV v).length) :: splitRow vs (row.drop (cellsOfV v).length)
/-- what the state at the end gives -/
def retOf (T : TT) (j : J) (rs : List ResultVar) (st : St) : Option (List V × List RC × List Prop) :=
  match resVs T j st rs with
  | some (vs, obl) =>
    if vs.any (fun v => match v with | .one _ | .agg _ => (cellsOfV v).isEmpty && !isAggV v | _ => true) then none else
    match pushAll T j st (vs.flatMap cellsOfV) with
    | some st1 => some (vs, (rootOf st1.r st.s.length).row, obl)
    | none => none
  | none => none
/-- what became of the roots that came in -/
def outsOf (T : TT) (j : J) (rs : List ResultVar) (st : St) : List Root :=
  match resVs T j st rs with
  | some (vs, _) => match pushAll T j st (vs.flatMap cellsOfV) with | some st1 => st1.r.drop (st.s.length + 1) | none => []
  | none => []
inductive LeRoot : Root → Root → Prop
  | none (R : Root) : LeRoot R .none
  | box {l r : List RC} : LeRow l r → LeRoot (.box l) (.box r)
/-- the state at the end gives ret -/
def RetOk (P : Program) (T : TT) (fn : Func) (st : St) (ret : RV) (upd : List Root) (N : Nat) : Prop :=
  (∃ vs row obl row', retOf T (std P T) fn.results.toList st = some (vs, row, obl) ∧ (∀ p ∈ obl, p) ∧ LeRow row row' ∧ ret = ⟨decide (fn.results.size ≠ 1), splitRow vs row'⟩) ∧
    (upd = [] ∨ (st.s.length = N ∧ ∀ (k : Nat) (R : Root), upd[k]? = some R → LeRoot ((outsOf T (std P T) fn.results.toList st).getD k .none) R))

def argV (N i : Nat) : Arg → V
  | .v false [c] => .one (cX c)
  | .v true cs => .agg (cs.map cX)
  | .fn f => .one (.fn f [])
  | .root _ => .one (.ptr (N + 1 + i) 0)
  | .clo f caps => .one (.fn f (caps.map fun t => N + 1 + t))
  | _ => .undef
def Root.isBox : Root → Bool
  | .box (_ :: _) => true
  | _ => false
def rootless : List Arg → Bool
  | [] => true
  | .root _ :: _ => false
  | .virt _ :: _ => false
  | _ :: as => rootless as
/-- the closures' own boxes stand behind the arguments, and each is there -/
def argsOk (args : List Arg) : Bool :=
  (args.drop (reals args)).all (fun x => !x.real) && (args.take (reals args)).all Arg.real && args.all (fun x => match x with | .root R | .virt R => R.isBox | .clo _ caps => caps.all (fun t => match args[t]? with | some x => x.asRoot.isBox | none => false) | _ => true)
def entry (n : Nat) (args : List Arg) : St :=
  { s := (args.take (reals args)).zipIdx.map (fun p => argV (reals args + (n - reals args)) p.2 p.1) ++ List.replicate (n - reals args) .undef,
    r := List.replicate (reals args + (n - reals args) + 1) .none ++ (if rootless args then [] else args.map Arg.asRoot) }

def resRun (a : Act) : ResultVar → Sem Value
  | .tmp t => pure (a.tmps.getD t undef)
  | .cell t ty => do loadVar ty (← asAddr (a.tmps.getD t undef))
theorem resV_sound (hT : TOk P T) (h : Rel T w0 S0 F st a w S bx ph) {r : ResultVar} {V : V} {obl : List Prop} (hp : resV T (std P T) st r = some (V, obl)) (ho : ∀ p ∈ obl, p) :
    ∃ z, (resRun a r).run P w = .ok z w ∧ VRep T w S st.r bx ph z V := by
  cases r with
  | tmp t =>
    cases hp
    exact ⟨_, rfl, ev_sound h (.tmp t)⟩
  | cell t ty =>
    have hu := ev_sound h (.tmp t)
    obtain ⟨z, h1, h2⟩ := load_sound hT h.heap hu hp ho
    refine ⟨z, ?_, h2⟩
    have h3 := h1 w (Keep.refl _ _ _ _ _)
    have hptr : ∃ ad, a.eval (.tmp t) = .pointer (some ad) := by
      have hp' : loadV T (std P T) st ty (st.s.getD t .undef) = some (V, obl) := hp
      unfold loadV at hp'
      split at hp'
      · split at hp'
        · cases hp'
        · split at hp'
          · rename_i hx
            rw [show ev st.s (.tmp t) = st.s.getD t .undef from rfl, hx] at hu
            obtain ⟨_, _, _, q⟩ := hu; exact ⟨_, q⟩
          · rename_i hx
            rw [show ev st.s (.tmp t) = st.s.getD t .undef from rfl, hx] at hu
            obtain ⟨_, _, _, _, _, _, _, q⟩ := hu; exact ⟨_, q⟩
          · rename_i hx
            rw [show ev st.s (.tmp t) = st.s.getD t .undef from rfl, hx] at hu
            obtain ⟨_, _, _, q, _⟩ := hu; exact ⟨_, q⟩
          · rename_i hx
            rw [show ev st.s (.tmp t) = st.s.getD t .undef from rfl, hx] at hu
            obtain ⟨_, _, _, _, _, _, _, _, _, _, _, _, _, _, _, _, q⟩ := hu; exact ⟨_, q⟩
          · cases hp'
      · cases hp'
    obtain ⟨ad, had⟩ := hptr
    have had' : a.tmps.getD t undef = .pointer (some ad) := had
    rw [had] at h3
    simp only [Instr.loadAt, Instr.sureAddr, Sem.run_bind, Sem.run_pure, Result.andThen_ok] at h3
    simp only [resRun, had', asAddr, Sem.run_bind, Sem.run_pure, Result.andThen_ok]
    exact h3

theorem resVs_sound (hT : TOk P T) (h : Rel T w0 S0 F st a w S bx ph) : ∀ (rs : List ResultVar) (vs : List V) (obl : List Prop), resVs T (std P T) st rs = some (vs, obl) → (∀ p ∈ obl, p) →
    ∃ zs : List Value, (rs.mapM (resRun a)).run P w = .ok zs w ∧ zs.length = vs.length ∧ zs.length = rs.length ∧
      ∀ k (h1 : k < vs.length) (h2 : k < zs.length), VRep T w S st.r bx ph zs[k] vs[k] := by
  intro rs
  induction rs with
  | nil =>
    intro vs obl hp _
    simp only [resVs, Option.some.injEq, Prod.mk.injEq] at hp
    obtain ⟨rfl, rfl⟩ := hp
    exact ⟨[], by simp, rfl, rfl, fun k hk => absurd hk (by simp)⟩
  | cons r rs ih =>
    intro vs obl hp ho
    unfold resVs at hp
    split at hp
    · rename_i v o vs' os h1 h2
      cases hp
      obtain ⟨z, z1, z2⟩ := resV_sound hT h h1 (fun p hp => ho p (List.mem_append_left _ hp))
      obtain ⟨zs, y1, y2, y3, y4⟩ := ih vs' os h2 (fun p hp => ho p (List.mem_append_right _ hp))
      refine ⟨z :: zs, ?_, by simp [y2], by simp [y3], fun k h1 h2 => ?_⟩
      · simp only [List.mapM_cons, Sem.run_bind, z1, Result.andThen_ok, y1, Sem.run_pure]
      · cases k with
        | zero => exact z2
        | succ k => exact y4 k (by simpa using h1) (by simpa using h2)
    · cases hp

theorem split_sound {vs : List V} {zs : List Value} (h : Heap T w S st.r bx ph) {φ : Nat → Pv} : ∀ (vs : List V) (zs : List Value) (row : List RC) (o : Nat), zs.length = vs.length → (∀ k (h1 : k < vs.length) (h2 : k < zs.length), VRep T w S st.r bx ph zs[k] vs[k]) →
    (∀ v ∈ vs, (∃ x, v = .one x ∧ x ≠ .undef) ∨ ∃ xs, v = .agg xs) → row.length = (vs.flatMap cellsOfV).length → (∀ k (hk : k < (zs.flatMap fun z => z.cells.toList).length), φ (o + k) = (zs.flatMap fun z => z.cells.toList)[k]) →
    PartVals φ o zs (splitRow vs row) := by
  intro vs
  induction vs with
  | nil =>
    intro zs row o hl _ _ _ _
    have : zs = [] := List.eq_nil_of_length_eq_zero hl
    subst this; trivial
  | cons v vs ih =>
    intro zs row o hl hv hform hrow hφ
    cases zs with
    | nil => simp at hl
    | cons z zs =>
      have hz : VRep T w S st.r bx ph z v := hv 0 (by simp) (by simp)
      have hcells : z.cells.size = (cellsOfV v).length ∧ (isAggV v = true → z = .agg z.cells) ∧ (isAggV v = false → z.cells = #[z]) := by
        rcases hform v (List.mem_cons_self ..) with ⟨x, rfl, hx⟩ | ⟨xs, rfl⟩
        · have h1 := cells_one h hx hz
          refine ⟨?_, (fun hh => by cases hh), fun _ => h1⟩
          rw [h1]; cases x <;> first | rfl | exact absurd rfl hx
        · obtain ⟨cs, rfl, h2⟩ := hz
          exact ⟨h2.1, fun _ => rfl, fun hh => by cases hh⟩
      obtain ⟨c1, c2, c3⟩ := hcells
      have hfl : ((z :: zs).flatMap fun z => z.cells.toList) = z.cells.toList ++ (zs.flatMap fun z => z.cells.toList) := List.flatMap_cons ..
      have hrow' : row.length = (cellsOfV v).length + (vs.flatMap cellsOfV).length := by rw [hrow, List.flatMap_cons, List.length_append]
      have hzl : z.cells.toList.length = (cellsOfV v).length := (Array.length_toList).trans c1
      have htl : (row.take (cellsOfV v).length).length = (cellsOfV v).length := by rw [List.length_take]; omega
      have hφ0 : ∀ k (hk : k < z.cells.size), φ (o + k) = z.cells[k] := fun k hk => by
        have hk2 : k < ((z :: zs).flatMap fun z => z.cells.toList).length := by rw [hfl, List.length_append, Array.length_toList]; omega
        have hk3 : k < z.cells.toList.length := by simpa using hk
        rw [hφ k hk2]
        refine get_of hk2 ?_
        rw [hfl, List.getElem?_append_left hk3, List.getElem?_eq_getElem hk3]; simp
      refine ⟨?_, ?_⟩
      · unfold PartVal
        dsimp only
        cases ha : isAggV v with
        | true =>
          simp only [if_true]
          exact ⟨z.cells, c2 ha, by rw [htl, c1], fun k hk => (hφ0 k hk).symm⟩
        | false =>
          simp only [Bool.false_eq_true, if_false]
          have h1 := c3 ha
          have hs1 : z.cells.size = 1 := by rw [h1]; rfl
          refine ⟨by rw [htl, ← c1, hs1], ?_⟩
          have := hφ0 0 (by omega)
          rw [Nat.add_zero] at this
          rw [this]
          simp only [h1]; rfl
      · show PartVals φ (o + (row.take (cellsOfV v).length).length) zs (splitRow vs (row.drop (cellsOfV v).length))
        rw [htl]
        refine ih zs _ _ (by simpa using hl) (fun k h1 h2 => hv (k + 1) (by simp; omega) (by simp; omega)) (fun v hv => hform v (List.mem_cons_of_mem _ hv)) (by rw [List.length_drop]; omega) (fun k hk => ?_)
        have hk2 : (cellsOfV v).length + k < ((z :: zs).flatMap fun z => z.cells.toList).length := by rw [hfl, List.length_append, hzl]; exact Nat.add_lt_add_left hk _
        rw [Nat.add_assoc, hφ _ hk2]
        refine get_of hk2 ?_
        rw [hfl, List.getElem?_append_right (by rw [hzl]; omega), hzl, Nat.add_sub_cancel_left, List.getElem?_eq_getElem hk]

theorem split_flat : ∀ (vs : List V) (row : List RC), row.length = (vs.flatMap cellsOfV).length → (splitRow vs row).flatMap (·.2) = row := by
  intro vs
  induction vs with
  | nil => intro row h; have : row = [] := List.eq_nil_of_length_eq_zero (by simpa using h); subst this; rfl
  | cons v vs ih =>
    intro row h
    rw [List.flatMap_cons, List.length_append] at h
    show (row.take _) ++ ((splitRow vs (row.drop _)).flatMap (·.2)) = row
    rw [ih _ (by rw [List.length_drop]; omega), List.take_append_drop]

theorem rootless_none : ∀ (args : List Arg), rootless args = true → ∀ t, (args.map Arg.asRoot).getD t .none = .none := by
  intro args
  induction args with
  | nil => intro _ t; rfl
  | cons x args ih =>
    intro h t
    cases x <;> simp only [rootless, Bool.false_eq_true] at h <;> (cases t with
      | zero => rfl
      | succ t => exact ih h t)
def entF (n : Nat) (args : List Arg) (bx : Nat → Nat) (ph : Nat → Nat → Pv) : Fr := ⟨fun b => ∃ t κ, owns (args.map Arg.asRoot) bx ph t κ b, fun t => bx (t - (reals args + (n - reals args) + 1))⟩
theorem isBox_some {R : Root} (h : R.isBox = true) : ∃ row, R = .box row ∧ 0 < row.length := by
  cases R with
  | none => cases h
  | loose _ => cases h
  | box row => cases row with
    | nil => cases h
    | cons x r => exact ⟨_, rfl, by simp⟩
theorem entry_rels {n : Nat} {args : List Arg} {vs : List Value} (hheap : Heap T w S (args.map Arg.asRoot) bx ph) (hl : vs.length = reals args) (hok : argsOk args = true) (ha : ∀ i (h : i < args.length) (h2 : i < vs.length), ArgRep w S bx (bx i) vs[i] args[i]) :
    Rels T w S (entF n args bx ph) (entry n args) { tmps := vs.toArray ++ Array.replicate (n - vs.toArray.size) undef, defers := [] } w := by
  have hle : reals args ≤ args.length := List.length_filter_le _ _
  generalize hN : reals args + (n - reals args) = N
  have hslen : (entry n args).s.length = N := by simp [entry]; omega
  have hg : ∀ t, (entry n args).r.getD t .none = if t < N + 1 then .none else (args.map Arg.asRoot).getD (t - (N + 1)) .none := fun t => by
    simp only [entry, List.getD_eq_getElem?_getD, hN]
    by_cases ht : t < N + 1
    · rw [if_pos ht, List.getElem?_append_left (by simpa using ht), List.getElem?_replicate]; split <;> rfl
    · rw [if_neg ht, List.getElem?_append_right (by simpa using ht), List.length_replicate]
      cases hq : rootless args with
      | true =>
        have := rootless_none args hq (t - (N + 1))
        rw [List.getD_eq_getElem?_getD] at this
        rw [this]; rfl
      | false => simp
  have hgr : ∀ i, (entry n args).r.getD (N + 1 + i) .none = (args.map Arg.asRoot).getD i .none := fun i => by
    rw [hg, if_neg (by omega), show N + 1 + i - (N + 1) = i by omega]
  have hown : ∀ t κ b, owns (entry n args).r (fun t => bx (t - (N + 1))) (fun t => ph (t - (N + 1))) t κ b → N + 1 ≤ t ∧ owns (args.map Arg.asRoot) bx ph (t - (N + 1)) κ b := fun t κ b hb => by
    by_cases ht : t < N + 1
    · exact (owns_none _ _ _ (by rw [hg, if_pos ht]) _ _ hb).elim
    · refine ⟨by omega, ?_⟩
      unfold owns at hb ⊢
      rw [hg, if_neg ht] at hb
      exact hb
  simp only [argsOk, Bool.and_eq_true] at hok
  obtain ⟨⟨_, hreal⟩, hbox⟩ := hok
  have hrb : ∀ i (h : i < args.length), args[i].asRoot.isBox = true → ∃ row, (entry n args).r.getD (N + 1 + i) .none = .box row ∧ 0 < row.length := fun i h h2 => by
    obtain ⟨row, h3, h4⟩ := isBox_some h2
    refine ⟨row, ?_, h4⟩
    rw [hgr, List.getD_eq_getElem?_getD, List.getElem?_map, List.getElem?_eq_getElem h]
    simpa using h3
  refine ⟨S, fun t => bx (t - (N + 1)), fun t => ph (t - (N + 1)), ⟨by rw [hslen]; simp [hl]; omega, ⟨by rw [hslen]; simp [entry]; omega, fun t _ => by unfold entF; rw [hN]⟩, rfl, ⟨fun t => ?_, fun t κ t' κ' b h1 h2 => ?_, fun t κ b h1 => hheap.free _ _ b (hown t κ b h1).2, hheap.low⟩, fun t κ b h1 => .inr ⟨_, _, (hown t κ b h1).2⟩, fun i hi => ?_, fun _ h => h, fun _ h => .inl h, Chg.refl _ _⟩, by rw [hslen, hg, if_pos (by omega)]⟩
  · rw [hg]; split
    · trivial
    · exact hheap.root _
  · obtain ⟨a1, a2⟩ := hown t κ b h1
    obtain ⟨b1, b2⟩ := hown t' κ' b h2
    obtain ⟨e1, e2⟩ := hheap.inj _ _ _ _ b a2 b2
    exact ⟨by omega, e2⟩
  · by_cases h1 : i < reals args
    · have h2 : i < vs.length := by omega
      have h1a : i < args.length := by omega
      have e1 : (entry n args).s.getD i .undef = argV N i args[i] := by
        simp only [entry, List.getD_eq_getElem?_getD, hN]
        rw [List.getElem?_append_left (by simp; omega)]
        simp only [List.getElem?_map, List.getElem?_zipIdx, List.getElem?_take]
        rw [if_pos h1, List.getElem?_eq_getElem h1a]; simp
      have e2 : (vs.toArray ++ Array.replicate (n - vs.toArray.size) undef).getD i undef = vs[i] := by
        rw [Array.getD_eq_getD_getElem?, Array.getElem?_append_left (by simpa using h2)]; simp [h2]
      show VRep T w S (entry n args).r _ _ ((vs.toArray ++ Array.replicate (n - vs.toArray.size) undef).getD i undef) _
      rw [e1, e2]
      have h3 := ha i h1a h2
      have h4 := List.all_eq_true.1 hbox args[i] (List.getElem_mem h1a)
      have h5 := hrb i h1a
      revert h3 h4 h5
      generalize args[i] = x
      generalize vs[i] = v
      intro h3 h4 h5
      cases x with
      | v b cs =>
        cases b with
        | false => obtain ⟨c, rfl, h6⟩ := h3; exact cX_sound h6
        | true =>
          obtain ⟨us, rfl, h6, h7⟩ := h3
          exact ⟨us, rfl, by simp [h6], fun k hk hk2 => by
            have hk' : k < cs.length := by simpa using hk
            rw [List.getElem_map]
            exact cX_sound (h7 k hk' hk2)⟩
      | root R =>
        obtain ⟨_, rfl⟩ := h3
        obtain ⟨row, q1, q2⟩ := h5 h4
        refine ⟨row, q1, q2, ?_⟩
        show _ = Value.pointer (some ⟨bx (N + 1 + i - (N + 1)), 0, none⟩)
        rw [show N + 1 + i - (N + 1) = i by omega]
      | fn f => exact ⟨h3, fun t ht => by cases ht⟩
      | clo f caps =>
        refine ⟨?_, fun t ht => ?_⟩
        · have h3' : v = _ := h3
          rw [h3', List.map_map]
          congr 2
          refine List.map_congr_left fun t _ => ?_
          show _ = Value.pointer (some ⟨bx (N + 1 + t - (N + 1)), 0, none⟩)
          rw [show N + 1 + t - (N + 1) = t by omega]
        · obtain ⟨u, hu, rfl⟩ := List.mem_map.1 ht
          have h6 := List.all_eq_true.1 h4 u hu
          split at h6
          · rename_i y hy
            obtain ⟨hlt, rfl⟩ := List.getElem?_eq_some_iff.1 hy
            obtain ⟨row, q1, q2⟩ := hrb u hlt h6
            exact ⟨row, q1, q2⟩
          · cases h6
      | virt R => exact h3.elim
      | any => trivial
    · have e1 : (entry n args).s.getD i .undef = .undef := by
        simp only [entry, List.getD_eq_getElem?_getD]
        rw [List.getElem?_append_right (by simp; omega), List.getElem?_replicate]
        split <;> rfl
      rw [e1]; trivial

/-- THE CONTRACT of a function whose text gives ret -/
theorem pc_of {f : FuncId} {fn : Func} {c : Code} {args : List Arg} {ret : RV} {upd : List Root} (hT : TOk P T) (hf : P.funcs[f]? = some fn) (hb : fn.body = some c) (hr : argsOk args = true)
    (h : Aw P T c (fun e st => (e = .normal ∨ e = .ret) ∧ RetOk P T fn st ret upd (reals args + (fn.ntmps - reals args))) (entry fn.ntmps args)) : PC P T f args ret upd := by
  intro w S bx ph vs hheap hl ha
  refine calls_of_wp hf hb ?_
  refine wp_mono (h w S (entF fn.ntmps args bx ph) _ w (entry_rels hheap hl hr ha)) ?_
  rintro e a' w' ⟨st', ⟨he, ⟨vs', row, obl, row', hret, ho, hle, hrv⟩, hupd⟩, S2, bx2, ph2, hrel, hsp⟩
  have hbp : ∀ {R : Ending → World → Prop}, (a'.defers = [] ∧ ∃ v, (results fn a'.tmps).run P w' = .ok v w' ∧ R (.returned v) w') → bodyPost P fn R e a' w' := fun hh => by
    rcases he with rfl | rfl <;> exact hh
  refine hbp ⟨hrel.defers, ?_⟩
  unfold retOf at hret
  split at hret
  · rename_i vs2 obl2 hres
    split at hret
    · cases hret
    · rename_i hform
      split at hret
      · rename_i st1 hpu
        simp only [Option.some.injEq, Prod.mk.injEq] at hret
        obtain ⟨rfl, rfl, rfl⟩ := hret
        obtain ⟨zs, z1, z2, z3, z4⟩ := resVs_sound hT hrel _ _ _ hres ho
        have hform' : ∀ v ∈ vs2, (∃ x, v = .one x ∧ x ≠ .undef) ∨ ∃ xs, v = .agg xs := fun v hv => by
          cases hh : (match v with | .one _ | .agg _ => (cellsOfV v).isEmpty && !isAggV v | _ => true) with
          | true => exact absurd (List.any_eq_true.2 ⟨v, hv, hh⟩) hform
          | false =>
            cases v with
            | one x =>
              refine .inl ⟨x, rfl, fun hx => ?_⟩
              subst hx; cases hh
            | agg xs => exact .inr ⟨xs, rfl⟩
            | tup _ => cases hh
            | undef => cases hh
            | nop => cases hh
        have hb0 : ∀ row, st'.r.getD st'.s.length .none ≠ .box row := by rw [hsp]; exact fun _ h => by cases h
        -- the cells of the results
        have hcells : ∀ (vs : List V) (zs : List Value), zs.length = vs.length → (∀ k (h1 : k < vs.length) (h2 : k < zs.length), VRep T w' S2 st'.r bx2 ph2 zs[k] vs[k]) → (∀ v ∈ vs, (∃ x, v = .one x ∧ x ≠ .undef) ∨ ∃ xs, v = .agg xs) →
            (zs.flatMap fun z => z.cells.toList).length = (vs.flatMap cellsOfV).length ∧ ∀ k (h1 : k < (vs.flatMap cellsOfV).length) (h2 : k < (zs.flatMap fun z => z.cells.toList).length), XRep T w' S2 st'.r bx2 ph2 (zs.flatMap fun z => z.cells.toList)[k] (vs.flatMap cellsOfV)[k] := by
          intro vs
          induction vs with
          | nil =>
            intro zs hl _ _
            have : zs = [] := List.eq_nil_of_length_eq_zero hl
            subst this
            exact ⟨rfl, fun k hk => absurd hk (by simp)⟩
          | cons v vs ih =>
            intro zs hl hv hfm
            cases zs with
            | nil => simp at hl
            | cons z zs =>
              have hz : VRep T w' S2 st'.r bx2 ph2 z v := hv 0 (by simp) (by simp)
              have h0 : XsRep T w' S2 st'.r bx2 ph2 z.cells (cellsOfV v) := by
                rcases hfm v (List.mem_cons_self ..) with ⟨x, rfl, hx⟩ | ⟨xs, rfl⟩
                · exact cellsOf_sound hrel.heap hz (by cases x <;> first | exact absurd rfl hx | simp [cellsOfV])
                · obtain ⟨cs, rfl, h2⟩ := hz; exact h2
              obtain ⟨i1, i2⟩ := ih zs (by simpa using hl) (fun k h1 h2 => hv (k + 1) (by simp; omega) (by simp; omega)) (fun v hv => hfm v (List.mem_cons_of_mem _ hv))
              have hl0 : z.cells.toList.length = (cellsOfV v).length := by rw [Array.length_toList]; exact h0.1
              simp only [List.flatMap_cons]
              refine ⟨by rw [List.length_append, List.length_append, hl0, i1], fun k hk hk2 => ?_⟩
              by_cases hlt : k < (cellsOfV v).length
              · have hlt2 : k < z.cells.toList.length := by omega
                rw [List.getElem_append_left hlt, List.getElem_append_left hlt2]
                have hk3 : k < z.cells.size := by rw [h0.1]; exact hlt
                simpa using h0.2 k hlt hk3
              · rw [List.getElem_append_right (by omega), List.getElem_append_right (by omega)]
                simp only [hl0]
                exact i2 _ _ _
        obtain ⟨y1, y2⟩ := hcells vs2 zs z2 z4 hform'
        obtain ⟨ph3, q⟩ := pushAll_sound (vs2.flatMap cellsOfV) (zs.flatMap fun z => z.cells.toList) st' ph2 hrel hb0 y1 y2 hpu
        obtain ⟨rcs, r1, r2⟩ := q.row
        have hl0 : (st'.r.getD st'.s.length .none).row = [] := by rw [hsp]; rfl
        rw [hl0, List.nil_append] at r2
        have hrowN : (rootOf st1.r st'.s.length).row = rcs := r2
        rw [hrowN] at hle
        have hlen : row'.length = (vs2.flatMap cellsOfV).length := by rw [← hle.len, r1, y1]
        have hvals : ∀ k (hk : k < (zs.flatMap fun z => z.cells.toList).length), ph3 st'.s.length k = (zs.flatMap fun z => z.cells.toList)[k] := fun k hk => by
          have := q.vals k hk
          rw [hl0] at this
          simpa using this
        have hpv := split_sound (vs := vs2) (zs := zs) (φ := ph3 st'.s.length) hrel.heap vs2 zs row' 0 z2 z4 hform' hlen (fun k hk => by rw [Nat.zero_add]; exact hvals k hk)
        -- the value
        have hrun : (results fn a'.tmps).run P w' = .ok (if h : zs.toArray.size = 1 then zs.toArray[0] else .tuple zs.toArray) w' := by
          have e1 : results fn a'.tmps = (do
              let vs ← fn.results.mapM (resRun a')
              pure (if h : vs.size = 1 then vs[0] else .tuple vs)) := by
            unfold results
            congr 1
          rw [e1, Array.mapM_eq_mapM_toList]
          simp [z1]
        have hsz : zs.length = fn.results.size := by rw [z3]; simp
        have hcellN : ∀ o (ho : o < rcs.length), RCRep T w' S2 (ph3 st'.s.length o) rcs[o] := fun o ho => q.rel.heap.cell (by rw [r2]; exact List.getElem?_eq_getElem ho)
        have houts : ∀ k, (outsOf T (std P T) fn.results.toList st').getD k .none = st1.r.getD (st'.s.length + 1 + k) .none := fun k => by
          unfold outsOf
          rw [hres]
          dsimp only
          rw [hpu]
          dsimp only
          rw [List.getD_eq_getElem?_getD, List.getElem?_drop]; rfl
        have hflat : ret.parts.flatMap (·.2) = row' := by rw [hrv]; exact split_flat vs2 row' hlen
        have hNlen : upd = [] ∨ st'.s.length = reals args + (fn.ntmps - reals args) := hupd.imp id And.left
        have hupk : ∀ (k : Nat) (R : Root), upd[k]? = some R → LeRoot (st1.r.getD (st'.s.length + 1 + k) .none) R := fun k R hk => by
          rcases hupd with h1 | ⟨_, h1⟩
          · rw [h1] at hk; cases hk
          · have := h1 k R hk; rwa [houts] at this
        have hpin : ∀ k R, upd[k]? = some R → bx2 (st'.s.length + 1 + k) = bx k := fun k R hk => by
          rcases hNlen with h1 | h1
          · rw [h1] at hk; cases hk
          · have := q.rel.rsize.2 (st'.s.length + 1 + k) (by rw [q.len]; omega)
            rw [this]
            unfold entF
            show bx (st'.s.length + 1 + k - (reals args + (fn.ntmps - reals args) + 1)) = _
            rw [h1]; congr 1; omega
        let bx' : Nat → Nat := fun t => match t with | 0 => 0 | i + 1 => bx i
        let ph' : Nat → Nat → Pv := fun t => match t with | 0 => ph3 st'.s.length | i + 1 => ph3 (st'.s.length + 1 + i)
        refine ⟨_, hrun, _, S2, bx', ph', rfl, ?_⟩
        have lecell : ∀ {t o : Nat} {x y : RC}, (st1.r.getD t .none).row[o]? = some x → LeRC x y → ∀ b, y.blk (ph3 t o) b → owns st1.r bx2 ph3 t (some o) b := fun {t o x y} hx hxy b hb => by
          have hrep := q.rel.heap.cell hx
          have h9 := (hxy.sound hrep).2
          rw [owns_of_cell hx]
          cases hxy with
          | refl => exact hb
          | nil_own e =>
            have hz := crep_nil hrep
            have hb2 : (ph3 t o).v.ownBlock = some b := hb
            rw [hz] at hb2; cases hb2
          | nil_sl => cases hb
        have hownR : ∀ t κ b, owns (.loose row' :: upd) bx' ph' t κ b → (t = 0 ∧ owns st1.r bx2 ph3 st'.s.length κ b) ∨ ∃ k R, t = k + 1 ∧ upd[k]? = some R ∧ owns st1.r bx2 ph3 (st'.s.length + 1 + k) κ b := fun t κ b hb => by
          cases t with
          | zero =>
            refine .inl ⟨rfl, ?_⟩
            cases κ with
            | none => cases hb
            | some o =>
              obtain ⟨rc, k1, k2⟩ := owns_cell hb
              have k1' : row'[o]? = some rc := k1
              obtain ⟨ho1, ho2⟩ := List.getElem?_eq_some_iff.1 k1'
              have ho3 : o < rcs.length := by rw [hle.len]; exact ho1
              have hlo := hle.get o ho3 ho1
              rw [ho2] at hlo
              exact lecell (by rw [r2]; exact List.getElem?_eq_getElem ho3) hlo b k2
          | succ k =>
            right
            cases hk : upd[k]? with
            | none => exact (owns_none _ _ _ (by rw [List.getD_cons_succ, List.getD_eq_getElem?_getD, hk]; rfl) _ _ hb).elim
            | some R =>
              refine ⟨k, R, rfl, hk ▸ rfl, ?_⟩
              have hR : (Root.loose row' :: upd).getD (k + 1) .none = R := by rw [List.getD_cons_succ, List.getD_eq_getElem?_getD, hk]; rfl
              have hlr := hupk k R hk
              generalize hQ : st1.r.getD (st'.s.length + 1 + k) .none = Q at hlr
              cases hlr with
              | none => exact (owns_none _ _ _ hR _ _ hb).elim
              | box hrow =>
                rename_i l r
                cases κ with
                | none =>
                  obtain ⟨_, _, rfl⟩ := owns_box hb
                  have h9 := owns_of_box (bx := bx2) (ph := ph3) hQ
                  rw [hpin k _ hk] at h9
                  exact h9
                | some o =>
                  obtain ⟨rc, k1, k2⟩ := owns_cell hb
                  rw [hR] at k1
                  have k1' : r[o]? = some rc := k1
                  obtain ⟨ho1, ho2⟩ := List.getElem?_eq_some_iff.1 k1'
                  have ho3 : o < l.length := by rw [hrow.len]; exact ho1
                  have hlo := hrow.get o ho3 ho1
                  rw [ho2] at hlo
                  exact lecell (by rw [hQ]; exact List.getElem?_eq_getElem ho3) hlo b k2
        refine ⟨?_, ?_, fun _ => rfl, hrel.keep, fun b hb => ?_, fun t κ b hb => ?_, q.rel.chg⟩
        · rw [hflat]
          refine ⟨fun t => ?_, fun t κ t' κ' b h1 h2 => ?_, fun t κ b h1 => ?_, q.rel.heap.low⟩
          · cases t with
            | zero => exact fun o ho => ((hle.get o (by rw [hle.len]; exact ho) ho).sound (hcellN o (by rw [hle.len]; exact ho))).1
            | succ k =>
              rw [List.getD_cons_succ]
              cases hk : upd[k]? with
              | none => rw [List.getD_eq_getElem?_getD, hk]; trivial
              | some R =>
                rw [List.getD_eq_getElem?_getD, hk]
                show RootRep T w' S2 (bx k) (ph3 (st'.s.length + 1 + k)) R
                have hlr := hupk k R hk
                have hrr := q.rel.heap.root (st'.s.length + 1 + k)
                rw [hpin k R hk] at hrr
                generalize st1.r.getD (st'.s.length + 1 + k) .none = Q at hlr hrr
                cases hlr with
                | none => trivial
                | box hrow => exact ⟨by obtain ⟨⟨arr, e, a1, a2, a3⟩, _⟩ := hrr; exact ⟨arr, e, a1, by rw [a2, hrow.len], fun o ho => a3 o (by rw [hrow.len]; exact ho)⟩, fun o ho => ((hrow.get o (by rw [hrow.len]; exact ho) ho).sound (hrr.2.1 o (by rw [hrow.len]; exact ho))).1, fun o f ho => by
                  obtain ⟨g1, g2⟩ := List.getElem?_eq_some_iff.1 ho
                  have g3 := hrow.get o (by rw [hrow.len]; exact g1) g1
                  rw [g2] at g3
                  exact hrr.2.2 o f (by rw [List.getElem?_eq_getElem (by rw [hrow.len]; exact g1), g3.me])⟩
          · rcases hownR t κ b h1 with ⟨rfl, h3⟩ | ⟨k, R, rfl, _, h3⟩ <;> rcases hownR t' κ' b h2 with ⟨rfl, h4⟩ | ⟨k', R', rfl, _, h4⟩
            · exact ⟨rfl, (q.rel.heap.inj _ _ _ _ b h3 h4).2⟩
            · have := (q.rel.heap.inj _ _ _ _ b h3 h4).1; omega
            · have := (q.rel.heap.inj _ _ _ _ b h3 h4).1; omega
            · obtain ⟨e1, e2⟩ := q.rel.heap.inj _ _ _ _ b h3 h4
              exact ⟨by omega, e2⟩
          · rcases hownR t κ b h1 with ⟨_, h3⟩ | ⟨k, R, _, _, h3⟩ <;> exact q.rel.heap.free _ _ b h3
        · rw [hrv]
          unfold RetRep
          dsimp only
          by_cases h1 : fn.results.size = 1
          · rw [if_neg (by simp [h1])]
            have h2 : zs.length = 1 := by omega
            match zs, h2, hpv with
            | [z], _, hpv => simpa using hpv
          · rw [if_pos (by simp [h1])]
            refine ⟨zs.toArray, ?_, hpv⟩
            rw [dif_neg (by simp; omega)]
        · rcases q.rel.new b hb with h1 | h1 | h1
          · exact .inl h1
          · exact .inr (.inl h1)
          · exact .inr (.inr h1)
        · rw [hflat] at hb
          rcases hownR t κ b hb with ⟨_, h3⟩ | ⟨k, R, _, _, h3⟩ <;> exact q.rel.mine _ _ b h3
      · cases hret
  · cases hret

/-- the state at the end gives a box that is new -/
def NewOk (fn : Func) (st : St) (row : List RC) : Prop :=
  ∃ s t row', fn.results.toList = [.tmp s] ∧ st.s.getD s .undef = .one (.ptr t 0) ∧ st.r.getD t .none = .box row' ∧ row' ≠ [] ∧ LeRow row' row
theorem pcn_of {f : FuncId} {fn : Func} {c : Code} {args : List Arg} {row : List RC} (hT : TOk P T) (hf : P.funcs[f]? = some fn) (hb : fn.body = some c) (hr : argsOk args = true) (h0 : rootless args = true)
    (h : Aw P T c (fun e st => (e = .normal ∨ e = .ret) ∧ NewOk fn st row) (entry fn.ntmps args)) : PCN P T f args row := by
  intro w S bx ph vs hheap hl ha
  refine calls_of_wp hf hb ?_
  refine wp_mono (h w S (entF fn.ntmps args bx ph) _ w (entry_rels hheap hl hr ha)) ?_
  rintro e a' w' ⟨st', ⟨he, s, t, row', hres, hs, hbox, hne, hle⟩, S2, bx2, ph2, hrel, hsp⟩
  have hbp : ∀ {R : Ending → World → Prop}, (a'.defers = [] ∧ ∃ v, (results fn a'.tmps).run P w' = .ok v w' ∧ R (.returned v) w') → bodyPost P fn R e a' w' := fun hh => by
    rcases he with rfl | rfl <;> exact hh
  refine hbp ⟨hrel.defers, ?_⟩
  have hv : VRep T w' S2 st'.r bx2 ph2 (a'.eval (.tmp s)) (st'.s.getD s .undef) := ev_sound hrel (.tmp s)
  rw [hs] at hv
  obtain ⟨row0, q1, q2, q3⟩ := hv
  have q3' : a'.tmps.getD s undef = .pointer (some ⟨bx2 t, 0, none⟩) := q3
  have hrun : (results fn a'.tmps).run P w' = .ok (.pointer (some ⟨bx2 t, 0, none⟩)) w' := by
    have e1 : results fn a'.tmps = (do
        let vs ← fn.results.mapM (resRun a')
        pure (if h : vs.size = 1 then vs[0] else .tuple vs)) := by
      unfold results
      congr 1
    rw [e1, Array.mapM_eq_mapM_toList, hres]
    simp [resRun, q3']
  have hroot := hrel.heap.root t
  rw [hbox] at hroot
  obtain ⟨⟨arr, ty, h1, h2, h3⟩, h4⟩ := hroot
  have hob : owns st'.r bx2 ph2 t none (bx2 t) := owns_of_box hbox
  have hnone : ∀ u κ b, ¬ owns (args.map Arg.asRoot) bx ph u κ b := fun u κ b hb' => by
    exact (owns_none _ _ _ (rootless_none args h0 u) _ _ hb').elim
  have hge : ∀ u κ b, owns st'.r bx2 ph2 u κ b → w.heap.size ≤ b := fun u κ b hb' => by
    rcases hrel.mine _ _ _ hb' with h5 | ⟨u', κ', h5⟩
    · exact h5
    · exact absurd h5 (hnone _ _ _)
  let bx' : Nat → Nat := fun t => match t with | 0 => 0 | i + 1 => bx i
  have hownR : ∀ u κ b, owns [Root.loose row] bx' (fun _ => ph2 t) u κ b → u = 0 ∧ ∃ o, κ = some o ∧ owns st'.r bx2 ph2 t (some o) b := fun u κ b hb' => by
    cases u with
    | succ u => exact (owns_none _ _ _ (by rfl) _ _ hb').elim
    | zero =>
      cases κ with
      | none => cases hb'
      | some o =>
        refine ⟨rfl, o, rfl, ?_⟩
        obtain ⟨rc, k1, k2⟩ := owns_cell hb'
        have k1' : row[o]? = some rc := k1
        obtain ⟨ho1, ho2⟩ := List.getElem?_eq_some_iff.1 k1'
        have ho3 : o < row'.length := by rw [hle.len]; exact ho1
        have hlo := hle.get o ho3 ho1
        rw [ho2] at hlo
        have hx : (st'.r.getD t .none).row[o]? = some row'[o] := by rw [hbox]; exact List.getElem?_eq_getElem ho3
        have hrep := hrel.heap.cell hx
        rw [owns_of_cell hx]
        revert hrep hlo
        generalize row'[o] = x
        intro hlo hrep
        cases hlo with
        | refl => exact k2
        | nil_own e =>
          have hz := crep_nil hrep
          have k2' : (ph2 t o).v.ownBlock = some b := k2
          rw [hz] at k2'; cases k2'
        | nil_sl => cases k2
  refine ⟨_, hrun, bx2 t, arr, ty, S2, bx', fun _ => ph2 t, rfl, h1, hge _ _ _ hob, (hrel.heap.free _ _ _ hob).1, fun u κ hu => ?_, ?_, ?_⟩
  · obtain ⟨_, o, rfl, h5⟩ := hownR _ _ _ hu
    have := (hrel.heap.inj _ _ _ _ _ h5 hob).2
    cases this
  · rw [← hle.len]; exact List.length_pos_iff.2 hne
  · have hflat : (⟨false, [(true, row)]⟩ : RV).parts.flatMap (·.2) = row := by simp
    refine ⟨?_, ?_, fun _ => rfl, hrel.keep, fun b hb' => ?_, fun u κ b hb' => ?_, hrel.chg⟩
    · rw [hflat]
      refine ⟨fun u => ?_, fun u κ u' κ' b b1 b2 => ?_, fun u κ b b1 => ?_, hrel.heap.low⟩
      · cases u with
        | succ u => exact trivial
        | zero => exact fun o ho => ((hle.get o (by rw [hle.len]; exact ho) ho).sound (h4.1 o (by rw [hle.len]; exact ho))).1
      · obtain ⟨rfl, o, rfl, c1⟩ := hownR _ _ _ b1
        obtain ⟨rfl, o', rfl, c2⟩ := hownR _ _ _ b2
        exact ⟨rfl, (hrel.heap.inj _ _ _ _ _ c1 c2).2⟩
      · obtain ⟨rfl, o, rfl, c1⟩ := hownR _ _ _ b1
        exact hrel.heap.free _ _ _ c1
    · unfold RetRep
      simp only [Bool.false_eq_true, if_false, PartVals, and_true]
      unfold PartVal
      simp only [if_true]
      refine ⟨arr, rfl, by rw [h2, hle.len], fun k hk => ?_⟩
      have := h3 k (by omega)
      rw [Array.getElem?_eq_getElem hk] at this
      rw [Nat.zero_add]
      exact Option.some.inj this
    · rcases hrel.new b hb' with h5 | h5 | h5
      · exact .inl h5
      · exact .inr (.inl h5)
      · exact .inr (.inr h5)
    · rw [hflat] at hb'
      obtain ⟨_, o, _, c1⟩ := hownR _ _ _ hb'
      exact .inl (hge _ _ _ c1)

/-! ### the table of types -/
def OkTI (P : Program) (t : TypeId) (ti : TI) : Prop := P.underlying t = some ti.desc ∧ ∃ i, P.info? t = some i ∧ i.size = ti.size ∧ i.bytes = ti.bytes ∧ i.zero = some ti.zero ∧ ti.zero.cells.size = ti.size
theorem tok1 {t : TypeId} {ti : TI} (h1 : P.underlying t = some ti.desc) (h2 : (P.info? t).map (fun i => (i.size, i.bytes, i.zero)) = some (ti.size, ti.bytes, some ti.zero)) (h3 : ti.zero.cells.size = ti.size) : OkTI P t ti := by
  refine ⟨h1, ?_⟩
  cases hi : P.info? t with
  | none => rw [hi] at h2; cases h2
  | some i =>
    rw [hi] at h2
    simp only [Option.map_some, Option.some.injEq, Prod.mk.injEq] at h2
    exact ⟨i, rfl, h2.1, h2.2.1, h2.2.2, h3⟩
theorem tok_of (l : List (TypeId × TI)) (h : ∀ p ∈ l, OkTI P p.1 p.2) : TOk P (look l) := by
  intro t ti ht
  induction l with
  | nil => cases ht
  | cons p l ih =>
    obtain ⟨k, x⟩ := p
    unfold look at ht
    split at ht
    · rename_i e
      cases ht; subst e
      exact h (k, ti) (List.mem_cons_self ..)
    · exact ih (fun p hp => h p (List.mem_cons_of_mem _ hp)) ht
end Go.Proofs.Ytdmdcmhgfgookaa.A
