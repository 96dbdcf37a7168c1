/- The ghost machine, part 33: regions that draw, in two parts. -/
import Derived.Test.YtljnfejcdadjpaaAm31
set_option linter.unusedSimpArgs false
set_option linter.unusedVariables false
set_option maxRecDepth 100000
set_option maxHeartbeats 4000000
namespace Go.Proofs.Ytljnfejcdadjpaa.A
open Go Go.RowKit
variable {P : Program} {T : TT} {w w' w0 : World} {S S0 : Nat → Prop} {F : Fr} {bx : Nat → Nat} {ph : Nat → Nat → Value} {a : Act} {st st' : St} {Q : Exit → St → Prop}
/-- the first part of a region that draws: it has made nothing. A: nobody in the region changes what was there; fresh: the world is the one of the start -/
def runS (T : TT) (j : J) (bk : Book) (ops : List Oper) (A : Bool) : Cert → Bool → List Nat → St → Tr
  | [], true, _, st => .done st
  | [], false, _, _ => .bad
  | (i, sole) :: rest, fresh, kn, st =>
    match ops[i]? with
    | none => .bad
    | some o =>
      let g2 := fun kn st =>
        match pureT T j st o (A && fresh) with
        | some (v, obl) => Tr.with obl (runS T j bk ops A rest fresh (learn kn st o) (put st o.dst v))
        | none =>
          if sole && (!A || !writes st o) then
            match stepT T j bk ops st o i with
            | some (st1, obl) => Tr.with obl (runS T j bk ops A rest false (learn kn st o) st1)
            | none => .bad
          else .bad
      let g1 := fun kn st =>
        match wantT ops st o with
        | some true =>
          match askT kn st (pickD o) with
          | some (d, b) => .cut b (g2 (d :: kn) (setB st d true)) (g2 (d :: kn) (setB st d false))
          | none => g2 kn st
        | some false => runS T j bk ops A rest fresh kn (put st o.dst .nop)
        | none => .bad
      match askT kn st (guardD ops o) with
      | some (d, b) => .cut b (g1 (d :: kn) (setB st d true)) (g1 (d :: kn) (setB st d false))
      | none => g1 kn st

theorem runS_sound (hT : TOk P T) {bk : Book} {ops : Array Oper} {A : Bool} {R R0 : St → Prop} {c2 : Cert} {wr : World} (hns : Region.noSelect ops = true) {Q : Exit → Act → World → Prop} (hQ : ∀ c a w, ¬ Q (.panic c) a w)
    (hR : ∀ st', R st' → TrOk R0 (runD T (std P T) bk ops.toList A c2 true [] st')) (hE : ∀ st' a' w', R0 st' → Rels T w0 S0 F st' a' w' → Q .normal a' w') :
    ∀ (cert : Cert) (listed : Array Bool) (fresh : Bool) (kn : List Nat) (st : St) (a : Act) (w : World), certOk ops listed (cert ++ c2) = true → Rels T w0 S0 F st a w → (fresh = true → w = wr) → (A = true → Old wr w) →
      TrOk R (runS T (std P T) bk ops.toList A cert fresh kn st) → wpAnyH P .any ops Q (fun w' => A = true → Old wr w') (cert ++ c2).length listed a w := by
  intro cert
  induction cert with
  | nil =>
    intro listed fresh kn st a w hc hrel hf hA hr
    cases fresh with
    | false => exact hr.elim
    | true => exact runD_sound hT hns hQ hE c2 listed true [] st a w hc hrel hf hA (hR st hr)
  | cons p rest ih =>
    obtain ⟨i, sole⟩ := p
    intro listed fresh kn st a w hc hrel hf hA hr
    change certOk ops listed ((i, sole) :: (rest ++ c2)) = true at hc
    change wpAnyH P .any ops Q (fun w' => A = true → Old wr w') ((rest ++ c2).length + 1) listed a w
    unfold runS at hr
    split at hr
    · exact hr.elim
    · rename_i o hoi
      have hoi' : ops[i]? = some o := by rw [← hoi]; simp
      dsimp only at hr
      -- no test is open any more
      have k1 : ∃ kn, TrOk R (match wantT ops.toList st o with
        | some true =>
          match askT kn st (pickD o) with
          | some (d, b) => .cut b ((fun kn st => match pureT T (std P T) st o (A && fresh) with
              | some (v, obl) => Tr.with obl (runS T (std P T) bk ops.toList A rest fresh (learn kn st o) (put st o.dst v))
              | none => if sole && (!A || !writes st o) then
                  match stepT T (std P T) bk ops.toList st o i with
                  | some (st1, obl) => Tr.with obl (runS T (std P T) bk ops.toList A rest false (learn kn st o) st1)
                  | none => Tr.bad
                else Tr.bad) (d :: kn) (setB st d true)) ((fun kn st => match pureT T (std P T) st o (A && fresh) with
              | some (v, obl) => Tr.with obl (runS T (std P T) bk ops.toList A rest fresh (learn kn st o) (put st o.dst v))
              | none => if sole && (!A || !writes st o) then
                  match stepT T (std P T) bk ops.toList st o i with
                  | some (st1, obl) => Tr.with obl (runS T (std P T) bk ops.toList A rest false (learn kn st o) st1)
                  | none => Tr.bad
                else Tr.bad) (d :: kn) (setB st d false))
          | none => (fun kn st => match pureT T (std P T) st o (A && fresh) with
              | some (v, obl) => Tr.with obl (runS T (std P T) bk ops.toList A rest fresh (learn kn st o) (put st o.dst v))
              | none => if sole && (!A || !writes st o) then
                  match stepT T (std P T) bk ops.toList st o i with
                  | some (st1, obl) => Tr.with obl (runS T (std P T) bk ops.toList A rest false (learn kn st o) st1)
                  | none => Tr.bad
                else Tr.bad) kn st
        | some false => runS T (std P T) bk ops.toList A rest fresh kn (put st o.dst .nop)
        | none => .bad) := by
        split at hr
        · rename_i d b hask
          exact tcut_sound (f := fun kn st => match wantT ops.toList st o with
            | some true =>
              match askT kn st (pickD o) with
              | some (d, b) => .cut b ((fun kn st => match pureT T (std P T) st o (A && fresh) with
                  | some (v, obl) => Tr.with obl (runS T (std P T) bk ops.toList A rest fresh (learn kn st o) (put st o.dst v))
                  | none => if sole && (!A || !writes st o) then
                      match stepT T (std P T) bk ops.toList st o i with
                      | some (st1, obl) => Tr.with obl (runS T (std P T) bk ops.toList A rest false (learn kn st o) st1)
                      | none => Tr.bad
                    else Tr.bad) (d :: kn) (setB st d true)) ((fun kn st => match pureT T (std P T) st o (A && fresh) with
                  | some (v, obl) => Tr.with obl (runS T (std P T) bk ops.toList A rest fresh (learn kn st o) (put st o.dst v))
                  | none => if sole && (!A || !writes st o) then
                      match stepT T (std P T) bk ops.toList st o i with
                      | some (st1, obl) => Tr.with obl (runS T (std P T) bk ops.toList A rest false (learn kn st o) st1)
                      | none => Tr.bad
                    else Tr.bad) (d :: kn) (setB st d false))
              | none => (fun kn st => match pureT T (std P T) st o (A && fresh) with
                  | some (v, obl) => Tr.with obl (runS T (std P T) bk ops.toList A rest fresh (learn kn st o) (put st o.dst v))
                  | none => if sole && (!A || !writes st o) then
                      match stepT T (std P T) bk ops.toList st o i with
                      | some (st1, obl) => Tr.with obl (runS T (std P T) bk ops.toList A rest false (learn kn st o) st1)
                      | none => Tr.bad
                    else Tr.bad) kn st
            | some false => runS T (std P T) bk ops.toList A rest fresh kn (put st o.dst .nop)
            | none => .bad) hask hr
        · exact ⟨kn, hr⟩
      -- an operation that gives a value, or is unwanted: first, or alone
      have take : ∀ (v : Value) (st2 : St) (kn2 : List Nat), YieldsIf P ops (fun w' => A = true → Old wr w') o v a → Rels T w0 S0 F st2 (a.put o.dst v) w → TrOk R (runS T (std P T) bk ops.toList A rest fresh kn2 st2) →
          wpAnyH P .any ops Q (fun w' => A = true → Old wr w') ((rest ++ c2).length + 1) listed a w := by
        intro v st2 kn2 hy hrel2 hr2
        have hrest : certOk ops (listed.setIfInBounds i true) (rest ++ c2) = true := by
          cases sole <;> simp only [certOk, Bool.and_eq_true] at hc <;> exact hc.2
        have h2 := ih _ fresh kn2 st2 (a.put o.dst v) w hrest hrel2 hf hA hr2
        cases sole with
        | true =>
          simp only [certOk, Bool.and_eq_true, beq_iff_eq] at hc
          refine wpAnyH_all hc.1 (by simp) fun k hk => ?_
          rcases List.mem_singleton.1 hk with rfl
          exact hy.wpOp hoi' hA ⟨hA, h2⟩
        | false =>
          simp only [certOk, Bool.and_eq_true] at hc
          exact wpAnyH_take hoi' hns hc.1.1 hc.1.2 (fun c a w h => absurd h (hQ c _ w)) hy hA h2
      obtain ⟨kn1, h1⟩ := k1
      split at h1
      · rename_i hw
        have hwt := wantT_sound P hrel hw
        have k2 : ∃ kn, TrOk R (match pureT T (std P T) st o (A && fresh) with
              | some (v, obl) => Tr.with obl (runS T (std P T) bk ops.toList A rest fresh (learn kn st o) (put st o.dst v))
              | none => if sole && (!A || !writes st o) then
                  match stepT T (std P T) bk ops.toList st o i with
                  | some (st1, obl) => Tr.with obl (runS T (std P T) bk ops.toList A rest false (learn kn st o) st1)
                  | none => Tr.bad
                else Tr.bad) := by
          split at h1
          · rename_i d b hask
            exact tcut_sound (f := fun kn st => match pureT T (std P T) st o (A && fresh) with
                  | some (v, obl) => Tr.with obl (runS T (std P T) bk ops.toList A rest fresh (learn kn st o) (put st o.dst v))
                  | none => if sole && (!A || !writes st o) then
                      match stepT T (std P T) bk ops.toList st o i with
                      | some (st1, obl) => Tr.with obl (runS T (std P T) bk ops.toList A rest false (learn kn st o) st1)
                      | none => Tr.bad
                    else Tr.bad) hask h1
          · exact ⟨kn1, h1⟩
        obtain ⟨kn2, h2⟩ := k2
        split at h2
        · rename_i v obl hp
          obtain ⟨h3, h4⟩ := tr_with h2
          obtain ⟨S, bx, ph, hr0, hsp⟩ := hrel
          obtain ⟨z, r1, r2⟩ := pureT_sound hT hr0 hp h3
          refine take z _ _ (.inl ⟨hwt, fun w1 hS => r1 w1 fun hfr => ?_⟩) ⟨S, bx, ph, ?_, ?_⟩ h4
          · simp only [Bool.and_eq_true] at hfr
            have e1 := hf hfr.2
            have hold := hS hfr.1
            rw [← e1] at hold
            exact ⟨fun b hb => hold b (hr0.heap.low b hb), fun t κ b hb => hold b (hr0.heap.free t κ b hb).2⟩
          · cases hdst : o.dst with
            | none => exact hr0
            | some d => exact hr0.put d r2
          · cases hdst : o.dst with
            | none => exact hsp
            | some d => show st.r.getD (st.s.set d v).length .none = .none; rw [List.length_set]; exact hsp
        · split at h2
          · rename_i hsole
            simp only [Bool.and_eq_true, Bool.or_eq_true, Bool.not_eq_true'] at hsole
            obtain ⟨rfl, hwr⟩ := hsole
            split at h2
            · rename_i st1 obl hst
              obtain ⟨h3, h4⟩ := tr_with h2
              simp only [certOk, Bool.and_eq_true, beq_iff_eq] at hc
              refine wpAnyH_all hc.1 (by simp) fun k hk => ?_
              rcases List.mem_singleton.1 hk with rfl
              unfold wpOp
              rw [hoi']
              dsimp only
              rw [if_pos hwt]
              refine .inl (stepT_sound2 hT hrel hst h3 fun z w' hz hw' => ?_)
              have hA' : A = true → Old wr w' := fun h => by
                rcases hwr with h5 | h5
                · rw [h] at h5; cases h5
                · exact old_trans (hA h) (hw' h5)
              exact ⟨hA', ih _ false _ st1 _ w' hc.2 hz (fun h => by cases h) hA' h4⟩
            · exact h2.elim
          · exact h2.elim
      · rename_i hw
        have hwt := wantT_sound P hrel hw
        exact take undef _ kn1 (.inr ⟨hwt, rfl⟩) (nop_rels hrel _) h1
      · exact h1.elim
/-- what is left of a region that draws -/
def DOk (R : St → Prop) (T : TT) (j : J) (bk : Book) (ops : List Oper) (A : Bool) (c : Cert) (st : St) : Prop := TrOk R (runD T j bk ops A c true [] st)
theorem dr_go {R : St → Prop} {j : J} {bk : Book} {ops : List Oper} {A : Bool} {c : Cert} {t : Tr} (hr : runD T j bk ops A c true [] st = t) (h : TrOk R t) : DOk R T j bk ops A c st := by unfold DOk; rw [hr]; exact h
theorem tr_mono {R R' : St → Prop} (hR : ∀ st, R st → R' st) : ∀ t, TrOk R t → TrOk R' t := by
  intro t
  induction t with
  | done st => exact fun h => hR st h
  | ob l t ih => exact fun h => ⟨h.1, ih h.2⟩
  | cut b x y ih1 ih2 => exact fun h => ⟨fun hb => ih1 (h.1 hb), fun hb => ih2 (h.2 hb)⟩
  | alt n x y ih1 ih2 => exact fun h => ⟨fun hb => ih1 (h.1 hb), ih2 h.2⟩
  | bad => exact fun h => h
theorem aw_ds1 {j : J} (hj : j = std P T) (hT : TOk P T) (hm : P.follows .mixedOrders = true) (bk : Book) (A : Bool) (c1 c2 : Cert) {id : Nat} {ops : Array Oper} {t : Tr} (hc : certAll ops (c1 ++ c2) = true)
    (hr : runS T j bk ops.toList A c1 true [] st = t) (h : TrOk (DOk (Q .normal) T j bk ops.toList A c2) t) : Aw P T (.region id ops true) Q st := by
  rw [hj] at hr h
  simp only [certAll, Bool.and_eq_true, beq_iff_eq] at hc
  intro w0 S0 F a w hrel
  refine wp_mono (Q := fun e a' w' => e = .normal ∧ ∃ st', Q .normal st' ∧ Rels T w0 S0 F st' a' w') ?_ (fun e a' w' hh => by obtain ⟨rfl, hh⟩ := hh; exact hh)
  refine wp_region_held (S := fun w' => A = true → Old { w with drawn := w.drawn + 1 } w') hm ?_
  have h9 := runS_sound (Q := fun e a' w' => e = .normal ∧ ∃ st', Q .normal st' ∧ Rels T w0 S0 F st' a' w') (A := A) (wr := { w with drawn := w.drawn + 1 }) (bk := bk) (R := DOk (Q .normal) T (std P T) bk ops.toList A c2) (R0 := Q .normal) (c2 := c2) hT hc.1.1 (fun c a w h => by cases h.1) (fun st' h' => h') (fun st' a' w' hR h' => ⟨rfl, st', hR, h'⟩) c1 _ true [] st a _ hc.2 hrel.drew (fun _ => rfl) (fun _ _ _ => rfl) (by rw [hr]; exact h)
  rw [hc.1.2] at h9
  exact h9
theorem aw_ds {j : J} (hj : j = std P T) (hT : TOk P T) (hm : P.follows .mixedOrders = true) (bk : Book) (A : Bool) (c1 c2 : Cert) {id : Nat} {ops : Array Oper} {y : Code} {t : Tr} (hc : certAll ops (c1 ++ c2) = true)
    (hr : runS T j bk ops.toList A c1 true [] st = t) (h : TrOk (DOk (Aw P T y Q) T j bk ops.toList A c2) t) : Aw P T (.seq (.region id ops true) y) Q st :=
  aw_seq fun K hK => aw_ds1 hj hT hm bk A c1 c2 hc hr (tr_mono (fun st1 h1 => tr_mono (fun st2 h2 => hK st2 h2) _ h1) t h)
end Go.Proofs.Ytljnfejcdadjpaa.A
