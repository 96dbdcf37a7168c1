/- The ghost machine, part 28: regions whose tests split the proof by themselves; calls by a book of contracts. -/
import Derived.Test.YtljnfejcdadjpaaDoorAmX
set_option linter.unusedSimpArgs false
set_option linter.unusedVariables false
namespace Go.Proofs.YtljnfejcdadjpaaDoor.A
open Go Go.RowKit
variable {P : Program} {T : TT} {w w' w0 : World} {S S0 F : Nat → Prop} {bx : Nat → Nat} {ph : Nat → Nat → Value} {a : Act} {st st' : St} {Q : Exit → St → Prop}

/-- how a region may end -/
inductive Tr where
  | done (st : St)
  | ob (l : List Prop) (t : Tr)
  | cut (b : Bool) (x y : Tr)
  | bad
def Tr.with : List Prop → Tr → Tr
  | [], t => t
  | l, t => .ob l t
def TrOk (R : St → Prop) : Tr → Prop
  | .done st => R st
  | .ob l t => (∀ p ∈ l, p) ∧ TrOk R t
  | .cut b x y => (b = true → TrOk R x) ∧ (b = false → TrOk R y)
  | .bad => False
theorem tr_done {R : St → Prop} (h : R st) : TrOk R (.done st) := h
theorem tr_ob {R : St → Prop} {l : List Prop} {t : Tr} (h : ∀ p ∈ l, p) (k : TrOk R t) : TrOk R (.ob l t) := ⟨h, k⟩
theorem tr_cut {R : St → Prop} {b : Bool} {x y : Tr} (h : b = true → TrOk R x) (k : b = false → TrOk R y) : TrOk R (.cut b x y) := ⟨h, k⟩
theorem tr_with {R : St → Prop} {l : List Prop} {t : Tr} (h : TrOk R (Tr.with l t)) : (∀ p ∈ l, p) ∧ TrOk R t := by
  cases l with
  | nil => exact ⟨fun _ h => absurd h (by simp), h⟩
  | cons p l => exact h

/-- what the functions give -/
abbrev Book := FuncId → List Arg → Option RV
def crT (T : TT) (j : J) (bk : Book) (st : St) (o : Oper) (i : Nat) : List (Nat × (RV × List Root)) :=
  match o.op with
  | .call { callee := .value f, args, .. } =>
    match ev st.s f, optAll (args.toList.map fun x => argOf T j st.r (ev st.s x)) with
    | .one (.fn f' []), some as => (match bk f' as with | some rv => [(i, (rv, []))] | none => [])
    | _, _ => []
  | _ => []
def slotB (st : St) (d : Nat) : Option Bool :=
  match st.s.getD d .undef with
  | .one (.c (.val (.bool b))) => some b
  | _ => none
def setB (st : St) (d : Nat) (b : Bool) : St := { st with s := st.s.set d (.one (.c (.val (.bool b)))) }
def guardD (ops : List Oper) (o : Oper) : Option Nat :=
  match o.guard with
  | some (k, _) => (ops[k]?).bind (·.dst)
  | none => none
def wantT (ops : List Oper) (st : St) (o : Oper) : Option Bool :=
  match o.guard with
  | none => some true
  | some (k, want) =>
    match (ops[k]?).bind (·.dst) with
    | some d =>
      match st.s.getD d .undef with
      | .one (.c (.val (.bool b))) => some (b == want)
      | .nop => some false
      | _ => none
    | none => none
def pickD (o : Oper) : Option Nat :=
  match o.op with
  | .pick (.tmp d) _ _ => some d
  | _ => none
def stepT0 (T : TT) (j : J) (bk : Book) (ops : List Oper) (st : St) (o : Oper) (i : Nat) : Option (St × List Prop) :=
  match o.op with
  | .pick c a b =>
    match ev st.s c with
    | .one (.c (.val (.bool t))) => some (put st o.dst (if t then ev st.s a else ev st.s b), [])
    | _ => none
  | _ => step1 T j ⟨[], [], crT T j bk st o i⟩ ops st o i
def stepT (T : TT) (j : J) (bk : Book) (ops : List Oper) (st : St) (o : Oper) (i : Nat) : Option (St × List Prop) :=
  match xtraOp T j st o with
  | some (v, obl) => some (put st o.dst v, obl)
  | none => stepT0 T j bk ops st o i
/-- the undecided test a slot holds -/
def askT (kn : List Nat) (st : St) : Option Nat → Option (Nat × Bool)
  | some d => if kn.contains d then none else match slotB st d with | some b => some (d, b) | none => none
  | none => none
/-- slots whose value is a literal: tests of them are not asked again -/
def knownOp (kn : List Nat) : Operand → Bool
  | .const _ => true
  | .tmp d => kn.contains d
  | _ => false
def learnIf (kn : List Nat) (d : Nat) (b : Bool) : List Nat := if b then d :: kn else kn
def learn (kn : List Nat) (st : St) (o : Oper) : List Nat :=
  match o.dst with
  | none => kn
  | some d =>
    match o.op with
    | .move x => learnIf kn d (knownOp kn x)
    | .assign x => learnIf kn d (knownOp kn x)
    | .pick c a b =>
      match ev st.s c with
      | .one (.c (.val (.bool t))) => learnIf kn d (if t then knownOp kn a else knownOp kn b)
      | _ => kn
    | _ => kn
def runT (T : TT) (j : J) (bk : Book) (ops : List Oper) : List Nat → St → List Oper → Nat → Tr
  | _, st, [], _ => .done st
  | kn, st, o :: rest, i =>
    let g2 := fun kn st =>
      match stepT T j bk ops st o i with
      | some (st1, obl) => Tr.with obl (runT T j bk ops (learn kn st o) st1 rest (i + 1))
      | none => .bad
    let g1 := fun kn st =>
      match wantT ops st o with
      | some true =>
        match askT kn st (pickD o) with
        | some (d, b) => .cut b (g2 (d :: kn) (setB st d true)) (g2 (d :: kn) (setB st d false))
        | none => g2 kn st
      | some false => runT T j bk ops kn (put st o.dst .nop) rest (i + 1)
      | none => .bad
    match askT kn st (guardD ops o) with
    | some (d, b) => .cut b (g1 (d :: kn) (setB st d true)) (g1 (d :: kn) (setB st d false))
    | none => g1 kn st

theorem ask_same {kn : List Nat} {x : Option Nat} {d : Nat} {b : Bool} (h : askT kn st x = some (d, b)) : setB st d b = st := by
  unfold askT at h
  split at h
  · rename_i d'
    split at h
    · cases h
    · split at h
      · rename_i b' hb
        simp only [Option.some.injEq, Prod.mk.injEq] at h
        obtain ⟨rfl, rfl⟩ := h
        unfold slotB at hb
        split at hb
        · rename_i b2 hs
          cases hb
          unfold setB
          have hlt : d' < st.s.length := by
            rcases Nat.lt_or_ge d' st.s.length with h2 | h2
            · exact h2
            · rw [List.getD_eq_getElem?_getD, List.getElem?_eq_none h2] at hs; cases hs
          have : st.s.set d' (.one (.c (.val (.bool b')))) = st.s := by
            rw [← hs, List.getD_eq_getElem?_getD, List.getElem?_eq_getElem hlt]; simp
          rw [this]
        · cases hb
      · cases h
  · cases h
theorem tcut_sound {R : St → Prop} {kn : List Nat} {x : Option Nat} {d : Nat} {b : Bool} {f : List Nat → St → Tr} (h : askT kn st x = some (d, b))
    (ht : TrOk R (.cut b (f (d :: kn) (setB st d true)) (f (d :: kn) (setB st d false)))) : ∃ kn', TrOk R (f kn' st) := by
  have hs := ask_same h
  cases b with
  | true => rw [← hs]; exact ⟨_, by rw [hs]; have := ht.1 rfl; rwa [hs] at this⟩
  | false => rw [← hs]; exact ⟨_, by rw [hs]; have := ht.2 rfl; rwa [hs] at this⟩
theorem wantT_sound (P : Program) (h : Rels T w0 S0 F st a w) {ops : List Oper} {o : Oper} {b : Bool} (hp : wantT ops st o = some b) : Region.wanted o (yielded ops.toArray a.tmps) = b := by
  unfold wantT at hp
  split at hp
  · rename_i hg
    cases hp
    exact wants_sound (P := P) (say := ⟨[], [], []⟩) (i := 0) (obl := []) h (by unfold wants; rw [hg]) (fun _ h => absurd h (by simp))
  · rename_i k want hg
    split at hp
    · rename_i d hd
      split at hp
      · rename_i t hs
        cases hp
        exact wants_sound (P := P) (say := ⟨[(k, t)], [], []⟩) (i := 0) (obl := [(std P T).eqb t t]) h (by unfold wants; rw [hg]; dsimp only; rw [hd]; dsimp only; rw [hs]; simp [look]) (fun p hp => by
          rcases List.mem_singleton.1 hp with rfl
          exact (rfl : t = t))
      · rename_i hs
        cases hp
        exact wants_sound (P := P) (say := ⟨[], [], []⟩) (i := 0) (obl := []) h (by unfold wants; rw [hg]; dsimp only; rw [hd]; dsimp only; rw [hs]) (fun _ h => absurd h (by simp))
      · cases hp
    · cases hp
theorem stepT0_sound (hT : TOk P T) (h : Rels T w0 S0 F st a w) {bk : Book} {ops : List Oper} {o : Oper} {i : Nat} {obl : List Prop} (hp : stepT0 T (std P T) bk ops st o i = some (st', obl)) (ho : ∀ p ∈ obl, p)
    {K : Act → World → Prop} {Q : Exit → Act → World → Prop} (hK : ∀ z w', Rels T w0 S0 F st' (a.put o.dst z) w' → K (a.put o.dst z) w') : o.wp P a w K Q := by
  unfold stepT0 at hp
  split at hp
  · rename_i c x y hop
    split at hp
    · rename_i t hc
      simp only [Option.some.injEq, Prod.mk.injEq] at hp
      obtain ⟨rfl, rfl⟩ := hp
      refine step1_sound (say := ⟨[], [(i, t)], []⟩) (ops := ops) (i := i) (obl := [(std P T).eqb t t]) hT h ?_ (fun p hp => by
          rcases List.mem_singleton.1 hp with rfl
          exact (rfl : t = t)) hK
      unfold step1 pureOp
      rw [hop]
      dsimp only
      rw [hc]
      simp [pickOf, look]
    · cases hp
  · exact step1_sound hT h hp ho hK
theorem xtra_step (hT : TOk P T) (h : Rels T w0 S0 F st a w) {o : Oper} {v : V} {obl : List Prop} (hp : xtraOp T (std P T) st o = some (v, obl)) (ho : ∀ p ∈ obl, p)
    {K : Act → World → Prop} {Q : Exit → Act → World → Prop} (hK : ∀ z, Rels T w0 S0 F (put st o.dst v) (a.put o.dst z) w → K (a.put o.dst z) w) : o.wp P a w K Q := by
  obtain ⟨S, bx, ph, h1, hsp⟩ := h
  obtain ⟨z, r1, r2⟩ := xtraOp_sound hT h1 hp ho
  refine wp_value (r1 w) (hK z ⟨S, bx, ph, ?_, ?_⟩)
  · cases hdst : o.dst with
    | none => exact h1
    | some d => exact h1.put d r2
  · cases hdst : o.dst with
    | none => exact hsp
    | some d => show st.r.getD (st.s.set d v).length .none = .none; rw [List.length_set]; exact hsp
theorem stepT_sound (hT : TOk P T) (h : Rels T w0 S0 F st a w) {bk : Book} {ops : List Oper} {o : Oper} {i : Nat} {obl : List Prop} (hp : stepT T (std P T) bk ops st o i = some (st', obl)) (ho : ∀ p ∈ obl, p)
    {K : Act → World → Prop} {Q : Exit → Act → World → Prop} (hK : ∀ z w', Rels T w0 S0 F st' (a.put o.dst z) w' → K (a.put o.dst z) w') : o.wp P a w K Q := by
  unfold stepT at hp
  split at hp
  · rename_i v obl' hx
    cases hp
    exact xtra_step hT h hx ho fun z hz => hK z w hz
  · exact stepT0_sound hT h hp ho hK
theorem runT_sound (hT : TOk P T) {bk : Book} {ops : List Oper} {Q : Exit → Act → World → Prop} {R : St → Prop} :
    ∀ (rest : List Oper) (i : Nat) (kn : List Nat) (st : St) (a : Act) (w : World), Rels T w0 S0 F st a w → (∀ k, rest[k]? = ops[i + k]?) → TrOk R (runT T (std P T) bk ops kn st rest i) →
      (∀ st' a' w', R st' → Rels T w0 S0 F st' a' w' → Q .normal a' w') → wpOps P ops.toArray Q ((List.range rest.length).map (i + ·)) a w := by
  intro rest
  induction rest with
  | nil =>
    intro i kn st a w h _ hr hQ
    exact hQ st a w hr h
  | cons o rest ih =>
    intro i kn st a w h hix hr hQ
    have hoi : ops[i]? = some o := by have := hix 0; simpa using this.symm
    have e1 : ((fun x => i + x) ∘ Nat.succ) = fun x => (i + 1) + x := by funext x; simp; omega
    have hix' : ∀ k, rest[k]? = ops[i + 1 + k]? := fun k => by
      have := hix (k + 1)
      rw [show i + 1 + k = i + (k + 1) by omega, ← this]; rfl
    rw [List.length_cons, List.range_succ_eq_map, List.map_cons, List.map_map, Nat.add_zero, wpOps_cons, e1]
    have hoi' : ops.toArray[i]? = some o := by simpa using hoi
    unfold wpOp
    rw [hoi']
    dsimp only
    -- what follows once no test is open
    have k2 : ∀ kn, TrOk R (match stepT T (std P T) bk ops st o i with
        | some (st1, obl) => Tr.with obl (runT T (std P T) bk ops (learn kn st o) st1 rest (i + 1))
        | none => .bad) → o.wp P a w (fun a' w' => wpOps P ops.toArray Q ((List.range rest.length).map (i + 1 + ·)) a' w') Q := by
      intro kn h2
      split at h2
      · rename_i st1 obl h1
        obtain ⟨h3, h4⟩ := tr_with h2
        exact stepT_sound hT h h1 h3 fun z w' hz => ih (i + 1) _ st1 _ w' hz hix' h4 hQ
      · exact h2.elim
    unfold runT at hr
    dsimp only at hr
    have k1 : ∃ kn, TrOk R (match wantT ops st o with
      | some true =>
        match askT kn st (pickD o) with
        | some (d, b) => .cut b ((fun kn st => match stepT T (std P T) bk ops st o i with
            | some (st1, obl) => Tr.with obl (runT T (std P T) bk ops (learn kn st o) st1 rest (i + 1))
            | none => Tr.bad) (d :: kn) (setB st d true)) ((fun kn st => match stepT T (std P T) bk ops st o i with
            | some (st1, obl) => Tr.with obl (runT T (std P T) bk ops (learn kn st o) st1 rest (i + 1))
            | none => Tr.bad) (d :: kn) (setB st d false))
        | none => (fun kn st => match stepT T (std P T) bk ops st o i with
            | some (st1, obl) => Tr.with obl (runT T (std P T) bk ops (learn kn st o) st1 rest (i + 1))
            | none => Tr.bad) kn st
      | some false => runT T (std P T) bk ops kn (put st o.dst .nop) rest (i + 1)
      | none => .bad) := by
      split at hr
      · rename_i d b hask
        obtain ⟨kn', h2⟩ := tcut_sound (f := fun kn st => match wantT ops st o with
          | some true =>
            match askT kn st (pickD o) with
            | some (d, b) => .cut b ((fun kn st => match stepT T (std P T) bk ops st o i with
                | some (st1, obl) => Tr.with obl (runT T (std P T) bk ops (learn kn st o) st1 rest (i + 1))
                | none => Tr.bad) (d :: kn) (setB st d true)) ((fun kn st => match stepT T (std P T) bk ops st o i with
                | some (st1, obl) => Tr.with obl (runT T (std P T) bk ops (learn kn st o) st1 rest (i + 1))
                | none => Tr.bad) (d :: kn) (setB st d false))
            | none => (fun kn st => match stepT T (std P T) bk ops st o i with
                | some (st1, obl) => Tr.with obl (runT T (std P T) bk ops (learn kn st o) st1 rest (i + 1))
                | none => Tr.bad) kn st
          | some false => runT T (std P T) bk ops kn (put st o.dst .nop) rest (i + 1)
          | none => .bad) hask hr
        exact ⟨kn', h2⟩
      · exact ⟨kn, hr⟩
    obtain ⟨kn1, h1⟩ := k1
    split at h1
    · rename_i hw
      rw [if_pos (wantT_sound P h hw)]
      refine .inl ?_
      split at h1
      · rename_i d b hask
        obtain ⟨kn', h2⟩ := tcut_sound (f := fun kn st => match stepT T (std P T) bk ops st o i with
            | some (st1, obl) => Tr.with obl (runT T (std P T) bk ops (learn kn st o) st1 rest (i + 1))
            | none => Tr.bad) hask h1
        exact k2 kn' h2
      · exact k2 kn1 h1
    · rename_i hw
      rw [if_neg (by rw [wantT_sound P h hw]; simp)]
      refine ih (i + 1) kn1 _ _ w ?_ hix' h1 hQ
      obtain ⟨S, bx, ph, h3, hsp⟩ := h
      refine ⟨S, bx, ph, nop_put h3 _, ?_⟩
      cases hdst : o.dst with
      | none => exact hsp
      | some d => show st.r.getD (st.s.set d .nop).length .none = .none; rw [List.length_set]; exact hsp
    · exact h1.elim
/-- the last region of a code -/
theorem aw_tr1 {j : J} (hj : j = std P T) (hT : TOk P T) (bk : Book) {id : Nat} {ops : Array Oper} {t : Tr} (hr : runT T j bk ops.toList [] st ops.toList 0 = t) (h : TrOk (Q .normal) t) : Aw P T (.region id ops false) Q st := by
  rw [hj] at hr
  intro w0 S0 F a w hrel
  refine wp_region ?_
  have := runT_sound (Q := fun e a' w' => ∃ st', Q e st' ∧ Rels T w0 S0 F st' a' w') (R := Q .normal) hT ops.toList 0 [] st a w hrel (fun k => by rw [Nat.zero_add]) (by rw [hr]; exact h) (fun st' a' w' hR h' => ⟨st', hR, h'⟩)
  simpa using this
/-- a region and what follows -/
theorem aw_tr {j : J} (hj : j = std P T) (hT : TOk P T) (bk : Book) {id : Nat} {ops : Array Oper} {y : Code} {t : Tr} (hr : runT T j bk ops.toList [] st ops.toList 0 = t) (h : TrOk (Aw P T y Q) t) : Aw P T (.seq (.region id ops false) y) Q st := by
  refine aw_seq fun K hK => aw_tr1 hj hT bk hr ?_
  have : ∀ t, TrOk (Aw P T y Q) t → TrOk (Th K Q .normal) t := by
    intro t
    induction t with
    | done st => exact fun h => hK st h
    | ob l t ih => exact fun h => ⟨h.1, ih h.2⟩
    | cut b x y ih1 ih2 => exact fun h => ⟨fun hb => ih1 (h.1 hb), fun hb => ih2 (h.2 hb)⟩
    | bad => exact fun h => h
  exact this t h
theorem th_n {K : St → Prop} (h : K st) : Th K Q .normal st := h
theorem th_r {K : St → Prop} (h : Q .ret st) : Th K Q .ret st := h
theorem th_x {K : St → Prop} {id : Nat} (h : Q (.exit id) st) : Th K Q (.exit id) st := h
theorem blk_n {id : Nat} (h : Q .normal st) : Blk id Q .normal st := h
theorem blk_r {id : Nat} (h : Q .ret st) : Blk id Q .ret st := h
theorem blk_x {id : Nat} (h : Q .normal st) : Blk id Q (.exit id) st := by simp only [Blk, if_pos]; exact h
theorem blk_y {id id' : Nat} (hne : (id' == id) = false) (h : Q (.exit id') st) : Blk id Q (.exit id') st := by
  have : ¬ id' = id := by simpa using hne
  simp only [Blk, if_neg this]; exact h
theorem aw_condj {c : Operand} {x y : Code} {b : Bool} (hc : ev st.s c = .one (.c (.val (.bool b)))) (ht : b = true → Aw P T x Q st) (hf : b = false → Aw P T y Q st) : Aw P T (.cond c x y) Q st := aw_cond hc ht hf
theorem ret_okj {j : J} (hj : j = std P T) {fn : Func} {ret : RV} {vs : List V} {row : List RC} {obl : List Prop} (h : retOf T j fn.results.toList st = some (vs, row, obl)) (ho : ∀ p ∈ obl, p) (he : ret = ⟨decide (fn.results.size ≠ 1), splitRow vs row⟩) : RetOk P T fn st ret := by
  rw [hj] at h
  exact ⟨vs, row, obl, row, h, ho, LeRow.refl _, he⟩
end Go.Proofs.YtljnfejcdadjpaaDoor.A
