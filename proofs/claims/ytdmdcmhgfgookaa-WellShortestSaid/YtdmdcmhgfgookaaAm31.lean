/- The ghost machine, part 31: regions that draw their order. -/
import Derived.Test.YtdmdcmhgfgookaaAm30
import Derived.OrdersHeld
set_option linter.unusedSimpArgs false
set_option linter.unusedVariables false
set_option maxRecDepth 100000
set_option maxHeartbeats 4000000
namespace Go.Proofs.Ytdmdcmhgfgookaa.A
open Go Go.RowKit
variable {P : Program} {T : TT} {w w' w0 : World} {S S0 : Nat → Prop} {F : Fr} {bx : Nat → Nat} {ph : Nat → Nat → Pv} {a : Act} {st st' : St} {Q : Exit → St → Prop}

/-- the order to take the operations in; whether one is the only one that may come up -/
abbrev Cert := List (Nat × Bool)
def certOk (ops : Array Oper) : Array Bool → Cert → Bool
  | listed, [] => (Region.ready .any ops listed).isEmpty
  | listed, (i, true) :: rest => Region.ready .any ops listed == [i] && certOk ops (listed.setIfInBounds i true) rest
  | listed, (i, false) :: rest => Region.free .any ops listed i && (Region.ready .any ops listed).contains i && certOk ops (listed.setIfInBounds i true) rest
def certAll (ops : Array Oper) (c : Cert) : Bool := Region.noSelect ops && c.length == ops.size && certOk ops (Array.replicate ops.size false) c

/-- may the value be had before others ? -/
def pureT0 (T : TT) (j : J) (st : St) (o : Oper) (free : Bool) : Option (V × List Prop) :=
  if reads st o && !free then none else
  match o.op with
  | .pick c a b =>
    match ev st.s c with
    | .one (.c (.val (.bool t))) => some (if t then ev st.s a else ev st.s b, [])
    | _ => none
  | _ => pureOp T j st none o
def pureT (T : TT) (j : J) (st : St) (o : Oper) (free : Bool) : Option (V × List Prop) :=
  match xtraOp T j st o with
  | some r => some r
  | none => pureT0 T j st o free
/-- A: nobody in the region changes what was there; fresh: the world is the one of the start -/
def runD (T : TT) (j : J) (bk : Book) (ops : List Oper) (A : Bool) : Cert → Bool → List Nat → St → Tr
  | [], _, _, st => .done st
  | (i, sole) :: rest, fresh, kn, st =>
    match ops[i]? with
    | none => .bad
    | some o =>
      let g2 := fun kn st =>
        match pureT T j st o (A && fresh) with
        | some (v, obl) => Tr.with obl (runD T j bk ops A rest fresh (learn kn st o) (put st o.dst v))
        | none =>
          if sole && (!A || !writes st o) then
            match stepT T j bk ops st o i with
            | some (st1, obl) => Tr.with obl (runD T j bk ops A rest true (learn kn st o) st1)
            | none => .bad
          else .bad
      let g1 := fun kn st =>
        match wantT ops st o with
        | some true =>
          match askT kn st (pickD o) with
          | some (d, b) => .cut b (g2 (d :: kn) (setB st d true)) (g2 (d :: kn) (setB st d false))
          | none => g2 kn st
        | some false => runD T j bk ops A rest fresh kn (put st o.dst .nop)
        | none => .bad
      match askT kn st (guardD ops o) with
      | some (d, b) => .cut b (g1 (d :: kn) (setB st d true)) (g1 (d :: kn) (setB st d false))
      | none => g1 kn st

theorem old_size (h : Old w w') : w.heap.size ≤ w'.heap.size := by
  rcases Nat.eq_zero_or_pos w.heap.size with h0 | h0
  · omega
  · have h1 := h (w.heap.size - 1) (by omega)
    rw [Array.getElem?_eq_getElem (by omega : w.heap.size - 1 < w.heap.size)] at h1
    obtain ⟨h2, _⟩ := Array.getElem?_eq_some_iff.1 h1
    omega
theorem old_trans {w1 w2 w3 : World} (h : Old w1 w2) (k : Old w2 w3) : Old w1 w3 := fun b hb => (k b (Nat.lt_of_lt_of_le hb (old_size h))).trans (h b hb)
theorem pureT0_sound (hT : TOk P T) (h : Rel T w0 S0 F st a w S bx ph) {o : Oper} {free : Bool} {V : V} {obl : List Prop} (hp : pureT0 T (std P T) st o free = some (V, obl)) (ho : ∀ p ∈ obl, p) :
    ∃ z, (∀ w1 : World, (free = true → Keep S st.r bx ph w w1) → (execOp a.eval o).run P w1 = .ok (.value z) w1) ∧ VRep T w S st.r bx ph z V := by
  unfold pureT0 at hp
  split at hp
  · cases hp
  · rename_i hc
    have key : ∀ {gs obl'}, pureOp T (std P T) st gs o = some (V, obl') → (∀ p ∈ obl', p) → ∃ z, (∀ w1 : World, (free = true → Keep S st.r bx ph w w1) → (execOp a.eval o).run P w1 = .ok (.value z) w1) ∧ VRep T w S st.r bx ph z V := by
      intro gs obl' h1 h2
      obtain ⟨z, r1, r2⟩ := pureOp_sound hT h h1 h2
      refine ⟨z, fun w1 hk => r1 w1 ?_, r2⟩
      cases hr : reads st o with
      | false => exact .inl rfl
      | true =>
        refine .inr (hk ?_)
        rw [hr] at hc
        simpa using hc
    split at hp
    · rename_i c x y hop
      split at hp
      · rename_i t hcv
        simp only [Option.some.injEq, Prod.mk.injEq] at hp
        obtain ⟨rfl, rfl⟩ := hp
        refine key (gs := some t) (obl' := [(std P T).eqb t t]) ?_ (fun p hp => by
          rcases List.mem_singleton.1 hp with rfl
          exact (rfl : t = t))
        unfold pureOp
        rw [hop]
        dsimp only
        rw [hcv]
      · cases hp
    · exact key hp ho
theorem pureT_sound (hT : TOk P T) (h : Rel T w0 S0 F st a w S bx ph) {o : Oper} {free : Bool} {V : V} {obl : List Prop} (hp : pureT T (std P T) st o free = some (V, obl)) (ho : ∀ p ∈ obl, p) :
    ∃ z, (∀ w1 : World, (free = true → Keep S st.r bx ph w w1) → (execOp a.eval o).run P w1 = .ok (.value z) w1) ∧ VRep T w S st.r bx ph z V := by
  unfold pureT at hp
  split at hp
  · rename_i r hx
    cases hp
    obtain ⟨z, r1, r2⟩ := xtraOp_sound hT h hx ho
    exact ⟨z, fun w1 _ => r1 w1, r2⟩
  · exact pureT0_sound hT h hp ho
theorem step1_sound2 (hT : TOk P T) (h : Rels T w0 S0 F st a w) {say : Say} {ops : List Oper} {o : Oper} {i : Nat} {obl : List Prop} (hp : step1 T (std P T) say ops st o i = some (st', obl)) (ho : ∀ p ∈ obl, p)
    {K : Act → World → Prop} {Q : Exit → Act → World → Prop} (hK : ∀ z w', Rels T w0 S0 F st' (a.put o.dst z) w' → (writes st o = false → Old w w') → K (a.put o.dst z) w') : o.wp P a w K Q := by
  obtain ⟨S, bx, ph, h1, hsp⟩ := h
  unfold step1 at hp
  split at hp
  · rename_i v obl' hpu
    cases hp
    obtain ⟨z, r1, r2⟩ := pureOp_sound hT h1 hpu ho
    refine wp_value (r1 w (.inr (Keep.refl _ _ _ _ _))) (hK z w ⟨S, bx, ph, ?_, ?_⟩ fun _ _ _ => rfl)
    · cases hdst : o.dst with
      | none => exact h1
      | some d => exact h1.put d r2
    · cases hdst : o.dst with
      | none => exact hsp
      | some d => show st.r.getD (st.s.set d v).length .none = .none; rw [List.length_set]; exact hsp
  · split at hp
    · rename_i vf st1 obl' hru
      split at hp
      · rename_i hd
        cases hp
        refine runOp_sound hT h1 hsp hru ho (fun k hk => ?_) fun z w' hz hw => hK z w' hz hw
        rw [hk] at hd; simpa [dstOk] using hd
      · cases hp
    · cases hp
theorem stepT0_sound2 (hT : TOk P T) (h : Rels T w0 S0 F st a w) {bk : Book} {ops : List Oper} {o : Oper} {i : Nat} {obl : List Prop} (hp : stepT0 T (std P T) bk ops st o i = some (st', obl)) (ho : ∀ p ∈ obl, p)
    {K : Act → World → Prop} {Q : Exit → Act → World → Prop} (hK : ∀ z w', Rels T w0 S0 F st' (a.put o.dst z) w' → (writes st o = false → Old w w') → K (a.put o.dst z) w') : o.wp P a w K Q := by
  unfold stepT0 at hp
  split at hp
  · rename_i c x y hop
    split at hp
    · rename_i t hc
      simp only [Option.some.injEq, Prod.mk.injEq] at hp
      obtain ⟨rfl, rfl⟩ := hp
      refine step1_sound2 (say := ⟨[], [(i, t)], []⟩) (ops := ops) (i := i) (obl := [(std P T).eqb t t]) hT h ?_ (fun p hp => by
          rcases List.mem_singleton.1 hp with rfl
          exact (rfl : t = t)) hK
      unfold step1 pureOp
      rw [hop]
      dsimp only
      rw [hc]
      simp [pickOf, look]
    · cases hp
  · exact step1_sound2 hT h hp ho hK
theorem stepT_sound2 (hT : TOk P T) (h : Rels T w0 S0 F st a w) {bk : Book} {ops : List Oper} {o : Oper} {i : Nat} {obl : List Prop} (hp : stepT T (std P T) bk ops st o i = some (st', obl)) (ho : ∀ p ∈ obl, p)
    {K : Act → World → Prop} {Q : Exit → Act → World → Prop} (hK : ∀ z w', Rels T w0 S0 F st' (a.put o.dst z) w' → (writes st o = false → Old w w') → K (a.put o.dst z) w') : o.wp P a w K Q := by
  unfold stepT at hp
  split at hp
  · rename_i v obl' hx
    cases hp
    exact xtra_step hT h hx ho fun z hz => hK z w hz fun _ _ _ => rfl
  · exact stepT0_sound2 hT h hp ho hK
theorem nop_rels (h : Rels T w0 S0 F st a w) (d : Option Nat) : Rels T w0 S0 F (put st d .nop) (a.put d undef) w := by
  obtain ⟨S, bx, ph, h1, hsp⟩ := h
  refine ⟨S, bx, ph, nop_put h1 _, ?_⟩
  cases d with
  | none => exact hsp
  | some d => show st.r.getD (st.s.set d .nop).length .none = .none; rw [List.length_set]; exact hsp

theorem wpAnyH_mono {ops : Array Oper} {Q : Exit → Act → World → Prop} {S1 S2 : World → Prop} (hS : ∀ w, S2 w → S1 w) : ∀ (fuel : Nat) (listed : Array Bool) (a : Act) (w : World), wpAnyH P .any ops Q S2 fuel listed a w → wpAnyH P .any ops Q S1 fuel listed a w
  | 0, _, _, _, h => h
  | fuel + 1, _, _, _, h => ⟨h.1, fun i hi => wpOp_mono (fun a' w' h' => ⟨hS _ h'.1, wpAnyH_mono hS fuel _ a' w' h'.2⟩) (h.2 i hi)⟩
theorem runD_sound (hT : TOk P T) {bk : Book} {ops : Array Oper} {A : Bool} {R : St → Prop} (hns : Region.noSelect ops = true) {Q : Exit → Act → World → Prop} (hQ : ∀ c a w, ¬ Q (.panic c) a w)
    (hE : ∀ st' a' w', R st' → Rels T w0 S0 F st' a' w' → Q .normal a' w') :
    ∀ (cert : Cert) (wr : World) (listed : Array Bool) (fresh : Bool) (kn : List Nat) (st : St) (a : Act) (w : World), certOk ops listed cert = true → Rels T w0 S0 F st a w → (fresh = true → w = wr) → (A = true → Old wr w) →
      TrOk R (runD T (std P T) bk ops.toList A cert fresh kn st) → wpAnyH P .any ops Q (fun w' => A = true → Old wr w') cert.length listed a w := by
  intro cert
  induction cert with
  | nil =>
    intro wr listed fresh kn st a w hc hrel _ _ hr
    refine wpAnyH_done ?_ (hE st a w hr hrel) 0
    simpa [certOk] using hc
  | cons p rest ih =>
    obtain ⟨i, sole⟩ := p
    intro wr listed fresh kn st a w hc hrel hf hA hr
    unfold runD at hr
    split at hr
    · exact hr.elim
    · rename_i o hoi
      have hoi' : ops[i]? = some o := by rw [← hoi]; simp
      dsimp only at hr
      -- no test is open any more
      have k1 : ∃ kn, TrOk R (match wantT ops.toList st o with
        | some true =>
          match askT kn st (pickD o) with
          | some (d, b) => .cut b ((fun kn st => match pureT T (std P T) st o (A && fresh) with
              | some (v, obl) => Tr.with obl (runD T (std P T) bk ops.toList A rest fresh (learn kn st o) (put st o.dst v))
              | none => if sole && (!A || !writes st o) then
                  match stepT T (std P T) bk ops.toList st o i with
                  | some (st1, obl) => Tr.with obl (runD T (std P T) bk ops.toList A rest true (learn kn st o) st1)
                  | none => Tr.bad
                else Tr.bad) (d :: kn) (setB st d true)) ((fun kn st => match pureT T (std P T) st o (A && fresh) with
              | some (v, obl) => Tr.with obl (runD T (std P T) bk ops.toList A rest fresh (learn kn st o) (put st o.dst v))
              | none => if sole && (!A || !writes st o) then
                  match stepT T (std P T) bk ops.toList st o i with
                  | some (st1, obl) => Tr.with obl (runD T (std P T) bk ops.toList A rest true (learn kn st o) st1)
                  | none => Tr.bad
                else Tr.bad) (d :: kn) (setB st d false))
          | none => (fun kn st => match pureT T (std P T) st o (A && fresh) with
              | some (v, obl) => Tr.with obl (runD T (std P T) bk ops.toList A rest fresh (learn kn st o) (put st o.dst v))
              | none => if sole && (!A || !writes st o) then
                  match stepT T (std P T) bk ops.toList st o i with
                  | some (st1, obl) => Tr.with obl (runD T (std P T) bk ops.toList A rest true (learn kn st o) st1)
                  | none => Tr.bad
                else Tr.bad) kn st
        | some false => runD T (std P T) bk ops.toList A rest fresh kn (put st o.dst .nop)
        | none => .bad) := by
        split at hr
        · rename_i d b hask
          exact tcut_sound (f := fun kn st => match wantT ops.toList st o with
            | some true =>
              match askT kn st (pickD o) with
              | some (d, b) => .cut b ((fun kn st => match pureT T (std P T) st o (A && fresh) with
                  | some (v, obl) => Tr.with obl (runD T (std P T) bk ops.toList A rest fresh (learn kn st o) (put st o.dst v))
                  | none => if sole && (!A || !writes st o) then
                      match stepT T (std P T) bk ops.toList st o i with
                      | some (st1, obl) => Tr.with obl (runD T (std P T) bk ops.toList A rest true (learn kn st o) st1)
                      | none => Tr.bad
                    else Tr.bad) (d :: kn) (setB st d true)) ((fun kn st => match pureT T (std P T) st o (A && fresh) with
                  | some (v, obl) => Tr.with obl (runD T (std P T) bk ops.toList A rest fresh (learn kn st o) (put st o.dst v))
                  | none => if sole && (!A || !writes st o) then
                      match stepT T (std P T) bk ops.toList st o i with
                      | some (st1, obl) => Tr.with obl (runD T (std P T) bk ops.toList A rest true (learn kn st o) st1)
                      | none => Tr.bad
                    else Tr.bad) (d :: kn) (setB st d false))
              | none => (fun kn st => match pureT T (std P T) st o (A && fresh) with
                  | some (v, obl) => Tr.with obl (runD T (std P T) bk ops.toList A rest fresh (learn kn st o) (put st o.dst v))
                  | none => if sole && (!A || !writes st o) then
                      match stepT T (std P T) bk ops.toList st o i with
                      | some (st1, obl) => Tr.with obl (runD T (std P T) bk ops.toList A rest true (learn kn st o) st1)
                      | none => Tr.bad
                    else Tr.bad) kn st
            | some false => runD T (std P T) bk ops.toList A rest fresh kn (put st o.dst .nop)
            | none => .bad) hask hr
        · exact ⟨kn, hr⟩
      -- an operation that gives a value, or is unwanted: first, or alone
      have take : ∀ (v : Value) (st2 : St) (kn2 : List Nat), YieldsIf P ops (fun w' => A = true → Old wr w') o v a → Rels T w0 S0 F st2 (a.put o.dst v) w → TrOk R (runD T (std P T) bk ops.toList A rest fresh kn2 st2) →
          wpAnyH P .any ops Q (fun w' => A = true → Old wr w') (rest.length + 1) listed a w := by
        intro v st2 kn2 hy hrel2 hr2
        have hrest : certOk ops (listed.setIfInBounds i true) rest = true := by
          cases sole <;> simp only [certOk, Bool.and_eq_true] at hc <;> exact hc.2
        have h2 := ih wr _ fresh kn2 st2 (a.put o.dst v) w hrest hrel2 hf hA hr2
        cases sole with
        | true =>
          simp only [certOk, Bool.and_eq_true, beq_iff_eq] at hc
          refine wpAnyH_all hc.1 (by simp) fun k hk => ?_
          rcases List.mem_singleton.1 hk with rfl
          exact hy.wpOp hoi' hA ⟨hA, h2⟩
        | false =>
          simp only [certOk, Bool.and_eq_true] at hc
          exact wpAnyH_take hoi' hns hc.1.1 hc.1.2 (fun c a w h => absurd h (hQ c _ w)) hy hA h2
      obtain ⟨kn1, h1⟩ := k1
      split at h1
      · rename_i hw
        have hwt := wantT_sound P hrel hw
        have k2 : ∃ kn, TrOk R (match pureT T (std P T) st o (A && fresh) with
              | some (v, obl) => Tr.with obl (runD T (std P T) bk ops.toList A rest fresh (learn kn st o) (put st o.dst v))
              | none => if sole && (!A || !writes st o) then
                  match stepT T (std P T) bk ops.toList st o i with
                  | some (st1, obl) => Tr.with obl (runD T (std P T) bk ops.toList A rest true (learn kn st o) st1)
                  | none => Tr.bad
                else Tr.bad) := by
          split at h1
          · rename_i d b hask
            exact tcut_sound (f := fun kn st => match pureT T (std P T) st o (A && fresh) with
                  | some (v, obl) => Tr.with obl (runD T (std P T) bk ops.toList A rest fresh (learn kn st o) (put st o.dst v))
                  | none => if sole && (!A || !writes st o) then
                      match stepT T (std P T) bk ops.toList st o i with
                      | some (st1, obl) => Tr.with obl (runD T (std P T) bk ops.toList A rest true (learn kn st o) st1)
                      | none => Tr.bad
                    else Tr.bad) hask h1
          · exact ⟨kn1, h1⟩
        obtain ⟨kn2, h2⟩ := k2
        split at h2
        · rename_i v obl hp
          obtain ⟨h3, h4⟩ := tr_with h2
          obtain ⟨S, bx, ph, hr0, hsp⟩ := hrel
          obtain ⟨z, r1, r2⟩ := pureT_sound hT hr0 hp h3
          refine take z _ _ (.inl ⟨hwt, fun w1 hS => r1 w1 fun hfr => ?_⟩) ⟨S, bx, ph, ?_, ?_⟩ h4
          · simp only [Bool.and_eq_true] at hfr
            have e1 := hf hfr.2
            have hold := hS hfr.1
            rw [← e1] at hold
            exact ⟨fun b hb => hold b (hr0.heap.low.1 b hb), fun t κ b hb => hold b (hr0.heap.free t κ b hb).2⟩
          · cases hdst : o.dst with
            | none => exact hr0
            | some d => exact hr0.put d r2
          · cases hdst : o.dst with
            | none => exact hsp
            | some d => show st.r.getD (st.s.set d v).length .none = .none; rw [List.length_set]; exact hsp
        · split at h2
          · rename_i hsole
            simp only [Bool.and_eq_true, Bool.or_eq_true, Bool.not_eq_true'] at hsole
            obtain ⟨rfl, hwr⟩ := hsole
            split at h2
            · rename_i st1 obl hst
              obtain ⟨h3, h4⟩ := tr_with h2
              simp only [certOk, Bool.and_eq_true, beq_iff_eq] at hc
              refine wpAnyH_all hc.1 (by simp) fun k hk => ?_
              rcases List.mem_singleton.1 hk with rfl
              unfold wpOp
              rw [hoi']
              dsimp only
              rw [if_pos hwt]
              refine .inl (stepT_sound2 hT hrel hst h3 fun z w' hz hw' => ?_)
              have hA' : A = true → Old wr w' := fun h => by
                rcases hwr with h5 | h5
                · rw [h] at h5; cases h5
                · exact old_trans (hA h) (hw' h5)
              exact ⟨hA', wpAnyH_mono (fun w2 h5 h6 => old_trans (hA' h6) (h5 h6)) _ _ _ _ (ih w' _ true _ st1 _ w' hc.2 hz (fun _ => rfl) (fun _ _ _ => rfl) h4)⟩
            · exact h2.elim
          · exact h2.elim
      · rename_i hw
        have hwt := wantT_sound P hrel hw
        exact take undef _ kn1 (.inr ⟨hwt, rfl⟩) (nop_rels hrel _) h1
      · exact h1.elim
theorem Rels.drew (h : Rels T w0 S0 F st a w) : Rels T w0 S0 F st a { w with drawn := w.drawn + 1 } := by
  obtain ⟨S, bx, ph, h1, hsp⟩ := h
  exact ⟨S, bx, ph, h1.world (w' := w.drew) (W := fun _ => False) (Chg.drew _ w) (fun _ _ hf => hf.elim), hsp⟩
/-- the last region of a code, one that draws -/
theorem aw_dr1 {j : J} (hj : j = std P T) (hT : TOk P T) (hm : P.follows .mixedOrders = true) (bk : Book) (A : Bool) (cert : Cert) {id : Nat} {ops : Array Oper} {t : Tr} (hc : certAll ops cert = true)
    (hr : runD T j bk ops.toList A cert true [] st = t) (h : TrOk (Q .normal) t) : Aw P T (.region id ops true) Q st := by
  rw [hj] at hr
  simp only [certAll, Bool.and_eq_true, beq_iff_eq] at hc
  intro w0 S0 F a w hrel
  refine wp_mono (Q := fun e a' w' => e = .normal ∧ ∃ st', Q .normal st' ∧ Rels T w0 S0 F st' a' w') ?_ (fun e a' w' hh => by obtain ⟨rfl, hh⟩ := hh; exact hh)
  refine wp_region_held (S := fun w' => A = true → Old { w with drawn := w.drawn + 1 } w') hm ?_
  have h9 := runD_sound (Q := fun e a' w' => e = .normal ∧ ∃ st', Q .normal st' ∧ Rels T w0 S0 F st' a' w') (A := A) (bk := bk) (R := Q .normal) hT hc.1.1 (fun c a w h => by cases h.1) (fun st' a' w' hR h' => ⟨rfl, st', hR, h'⟩) cert { w with drawn := w.drawn + 1 } _ true [] st a _ hc.2 hrel.drew (fun _ => rfl) (fun _ _ _ => rfl) (by rw [hr]; exact h)
  rw [hc.1.2] at h9
  exact h9
/-- a region that draws, and what follows -/
theorem aw_dr {j : J} (hj : j = std P T) (hT : TOk P T) (hm : P.follows .mixedOrders = true) (bk : Book) (A : Bool) (cert : Cert) {id : Nat} {ops : Array Oper} {y : Code} {t : Tr} (hc : certAll ops cert = true)
    (hr : runD T j bk ops.toList A cert true [] st = t) (h : TrOk (Aw P T y Q) t) : Aw P T (.seq (.region id ops true) y) Q st := by
  refine aw_seq fun K hK => aw_dr1 hj hT hm bk A cert hc hr ?_
  have : ∀ t, TrOk (Aw P T y Q) t → TrOk (Th K Q .normal) t := by
    intro t
    induction t with
    | done st => exact fun h => hK st h
    | ob l t ih => exact fun h => ⟨h.1, ih h.2⟩
    | cut b x y ih1 ih2 => exact fun h => ⟨fun hb => ih1 (h.1 hb), fun hb => ih2 (h.2 hb)⟩
    | alt n x y ih1 ih2 => exact fun h => ⟨fun hb => ih1 (h.1 hb), ih2 h.2⟩
    | bad => exact fun h => h
  exact this t h

/-! ### a certificate, found by the machine -/
def staticPure (A : Bool) (o : Oper) : Bool :=
  match o.op with
  | .alloc _ | .box _ _ | .buildSlice _ _ _ | .makeSlice _ _ _ | .store _ _ _ => false
  | .load _ _ => A
  | .convert _ _ _ => A
  | .call { callee := .builtin .len, .. } => true
  | .call _ => false
  | _ => true
def mkCert (A : Bool) (ops : Array Oper) : Nat → Array Bool → Cert
  | 0, _ => []
  | n + 1, listed =>
    match Region.ready .any ops listed with
    | [] => []
    | rs =>
      let i := match rs.find? (fun i => match ops[i]? with | some o => staticPure A o && Region.free .any ops listed i | none => false) with
        | some i => i
        | none => rs.headD 0
      (i, rs == [i]) :: mkCert A ops n (listed.setIfInBounds i true)
def certOf (A : Bool) (ops : Array Oper) : Cert := mkCert A ops ops.size (Array.replicate ops.size false)
theorem aw_drc {j : J} (hj : j = std P T) (hT : TOk P T) (hm : P.follows .mixedOrders = true) (bk : Book) (A : Bool) {id : Nat} {ops : Array Oper} {y : Code} {t : Tr} {cert : Cert} (hce : certOf A ops = cert) (hc : certAll ops cert = true)
    (hr : runD T j bk ops.toList A cert true [] st = t) (h : TrOk (Aw P T y Q) t) : Aw P T (.seq (.region id ops true) y) Q st := aw_dr hj hT hm bk A cert hc hr h
theorem aw_drc1 {j : J} (hj : j = std P T) (hT : TOk P T) (hm : P.follows .mixedOrders = true) (bk : Book) (A : Bool) {id : Nat} {ops : Array Oper} {t : Tr} {cert : Cert} (hce : certOf A ops = cert) (hc : certAll ops cert = true)
    (hr : runD T j bk ops.toList A cert true [] st = t) (h : TrOk (Q .normal) t) : Aw P T (.region id ops true) Q st := aw_dr1 hj hT hm bk A cert hc hr h
end Go.Proofs.Ytdmdcmhgfgookaa.A
