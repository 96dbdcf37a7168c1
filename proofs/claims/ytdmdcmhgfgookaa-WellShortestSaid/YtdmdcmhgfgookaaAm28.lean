/- The ghost machine, part 28: regions whose tests split the proof by themselves; calls by a book of contracts. -/
import Derived.Test.YtdmdcmhgfgookaaAmX
set_option linter.unusedSimpArgs false
set_option linter.unusedVariables false
set_option maxRecDepth 100000
set_option maxHeartbeats 4000000
namespace Go.Proofs.Ytdmdcmhgfgookaa.A
open Go Go.RowKit
variable {P : Program} {T : TT} {w w' w0 : World} {S S0 : Nat → Prop} {F : Fr} {bx : Nat → Nat} {ph : Nat → Nat → Pv} {a : Act} {st st' : St} {Q : Exit → St → Prop}

/-- how a region may end -/
inductive Tr where
  | done (st : St)
  | ob (l : List Prop) (t : Tr)
  | cut (b : Bool) (x y : Tr)
  | alt (n : Nat) (x y : Tr)
  | bad
def Tr.with : List Prop → Tr → Tr
  | [], t => t
  | l, t => .ob l t
def TrOk (R : St → Prop) : Tr → Prop
  | .done st => R st
  | .ob l t => (∀ p ∈ l, p) ∧ TrOk R t
  | .cut b x y => (b = true → TrOk R x) ∧ (b = false → TrOk R y)
  | .alt n x y => (n = 0 → TrOk R x) ∧ TrOk R y
  | .bad => False
theorem tr_done {R : St → Prop} (h : R st) : TrOk R (.done st) := h
theorem tr_ob {R : St → Prop} {l : List Prop} {t : Tr} (h : ∀ p ∈ l, p) (k : TrOk R t) : TrOk R (.ob l t) := ⟨h, k⟩
theorem tr_cut {R : St → Prop} {b : Bool} {x y : Tr} (h : b = true → TrOk R x) (k : b = false → TrOk R y) : TrOk R (.cut b x y) := ⟨h, k⟩
theorem tr_alt {R : St → Prop} {n : Nat} {x y : Tr} (h : n = 0 → TrOk R x) (k : TrOk R y) : TrOk R (.alt n x y) := ⟨h, k⟩
/-- is a slice of unknown make held against nil ? how many elements it has, and what the test says of nil -/
def nilAsk (T : TT) (st : St) (o : Oper) : Option (Nat × Bool) :=
  match o.op with
  | .binOp op t x y _ =>
    match descOf T t, ev st.s y, ev st.s x with
    | .slice _, .one (.c .nil), .one (.c (.sl n _)) => (match op with | .eql => some (n, true) | .neq => some (n, false) | _ => none)
    | .slice _, .one (.c .nil), .one (.view t' o') => (match ownAt st.r t' o', op with | some (_, n, _), .eql => some (n, true) | some (_, n, _), .neq => some (n, false) | _, _ => none)
    | _, _, _ => none
  | _ => none
def nilGo : Option (Nat × Bool) → Tr → (Bool → Tr) → Tr
  | none, t, _ => t
  | some (n, b), _, f => .alt n (f b) (f (!b))
def putB (st : St) (d : Option Nat) (b : Bool) : St := put st d (.one (.c (.val (.bool b))))
theorem tr_with {R : St → Prop} {l : List Prop} {t : Tr} (h : TrOk R (Tr.with l t)) : (∀ p ∈ l, p) ∧ TrOk R t := by
  cases l with
  | nil => exact ⟨fun _ h => absurd h (by simp), h⟩
  | cons p l => exact h

/-- what the functions give -/
abbrev Book := FuncId → List Arg → Option (RV × List Root)
instance : Coe RV (RV × List Root) := ⟨fun r => (r, [])⟩
def crT (T : TT) (j : J) (bk : Book) (st : St) (o : Oper) (i : Nat) : List (Nat × (RV × List Root)) :=
  match o.op with
  | .call { callee := .value f, args, .. } =>
    match ev st.s f with
    | .one (.fn f' caps) =>
      let xs := args.toList.map (ev st.s) ++ caps.map fun t => V.one (.ptr t 0)
      let ts := tsOf xs
      match optAll (xs.map (argOf T j st.r ts)), optAll ((ts.drop xs.length).map (virtOf st.r)) with
      | some as, some vs => (match bk f' (as ++ vs) with | some cr => [(i, cr)] | none => [])
      | _, _ => []
    | _ => []
  | _ => []
def slotB (st : St) (d : Nat) : Option Bool :=
  match st.s.getD d .undef with
  | .one (.c (.val (.bool b))) => some b
  | _ => none
def setB (st : St) (d : Nat) (b : Bool) : St := { st with s := st.s.set d (.one (.c (.val (.bool b)))) }
def guardD (ops : List Oper) (o : Oper) : Option Nat :=
  match o.guard with
  | some (k, _) => (ops[k]?).bind (·.dst)
  | none => none
def wantT (ops : List Oper) (st : St) (o : Oper) : Option Bool :=
  match o.guard with
  | none => some true
  | some (k, want) =>
    match (ops[k]?).bind (·.dst) with
    | some d =>
      match st.s.getD d .undef with
      | .one (.c (.val (.bool b))) => some (b == want)
      | .nop => some false
      | _ => none
    | none => none
def pickD (o : Oper) : Option Nat :=
  match o.op with
  | .pick (.tmp d) _ _ => some d
  | _ => none
def stepT0 (T : TT) (j : J) (bk : Book) (ops : List Oper) (st : St) (o : Oper) (i : Nat) : Option (St × List Prop) :=
  match o.op with
  | .pick c a b =>
    match ev st.s c with
    | .one (.c (.val (.bool t))) => some (put st o.dst (if t then ev st.s a else ev st.s b), [])
    | _ => none
  | _ => step1 T j ⟨[], [], crT T j bk st o i⟩ ops st o i
def stepT (T : TT) (j : J) (bk : Book) (ops : List Oper) (st : St) (o : Oper) (i : Nat) : Option (St × List Prop) :=
  match xtraOp T j st o with
  | some (v, obl) => some (put st o.dst v, obl)
  | none => stepT0 T j bk ops st o i
/-- the undecided test a slot holds -/
def askT (kn : List Nat) (st : St) : Option Nat → Option (Nat × Bool)
  | some d => if kn.contains d then none else match slotB st d with | some b => some (d, b) | none => none
  | none => none
/-- slots whose value is a literal: tests of them are not asked again -/
def knownOp (kn : List Nat) : Operand → Bool
  | .const _ => true
  | .tmp d => kn.contains d
  | _ => false
def learnIf (kn : List Nat) (d : Nat) (b : Bool) : List Nat := if b then d :: kn else kn
def learn (kn : List Nat) (st : St) (o : Oper) : List Nat :=
  match o.dst with
  | none => kn
  | some d =>
    match o.op with
    | .move x => learnIf kn d (knownOp kn x)
    | .assign x => learnIf kn d (knownOp kn x)
    | .pick c a b =>
      match ev st.s c with
      | .one (.c (.val (.bool t))) => learnIf kn d (if t then knownOp kn a else knownOp kn b)
      | _ => kn
    | _ => kn
def runT (T : TT) (j : J) (bk : Book) (ops : List Oper) : List Nat → St → List Oper → Nat → Tr
  | _, st, [], _ => .done st
  | kn, st, o :: rest, i =>
    let g2 := fun kn st => nilGo (nilAsk T st o) (match stepT T j bk ops st o i with
      | some (st1, obl) => Tr.with obl (runT T j bk ops (learn kn st o) st1 rest (i + 1))
      | none => .bad) (fun b => runT T j bk ops (learnIf kn (o.dst.getD 0) o.dst.isSome) (putB st o.dst b) rest (i + 1))
    let g1 := fun kn st =>
      match wantT ops st o with
      | some true =>
        match askT kn st (pickD o) with
        | some (d, b) => .cut b (g2 (d :: kn) (setB st d true)) (g2 (d :: kn) (setB st d false))
        | none => g2 kn st
      | some false => runT T j bk ops kn (put st o.dst .nop) rest (i + 1)
      | none => .bad
    match askT kn st (guardD ops o) with
    | some (d, b) => .cut b (g1 (d :: kn) (setB st d true)) (g1 (d :: kn) (setB st d false))
    | none => g1 kn st

theorem ask_same {kn : List Nat} {x : Option Nat} {d : Nat} {b : Bool} (h : askT kn st x = some (d, b)) : setB st d b = st := by
  unfold askT at h
  split at h
  · rename_i d'
    split at h
    · cases h
    · split at h
      · rename_i b' hb
        simp only [Option.some.injEq, Prod.mk.injEq] at h
        obtain ⟨rfl, rfl⟩ := h
        unfold slotB at hb
        split at hb
        · rename_i b2 hs
          cases hb
          unfold setB
          have hlt : d' < st.s.length := by
            rcases Nat.lt_or_ge d' st.s.length with h2 | h2
            · exact h2
            · rw [List.getD_eq_getElem?_getD, List.getElem?_eq_none h2] at hs; cases hs
          have : st.s.set d' (.one (.c (.val (.bool b')))) = st.s := by
            rw [← hs, List.getD_eq_getElem?_getD, List.getElem?_eq_getElem hlt]; simp
          rw [this]
        · cases hb
      · cases h
  · cases h
theorem tcut_sound {R : St → Prop} {kn : List Nat} {x : Option Nat} {d : Nat} {b : Bool} {f : List Nat → St → Tr} (h : askT kn st x = some (d, b))
    (ht : TrOk R (.cut b (f (d :: kn) (setB st d true)) (f (d :: kn) (setB st d false)))) : ∃ kn', TrOk R (f kn' st) := by
  have hs := ask_same h
  cases b with
  | true => rw [← hs]; exact ⟨_, by rw [hs]; have := ht.1 rfl; rwa [hs] at this⟩
  | false => rw [← hs]; exact ⟨_, by rw [hs]; have := ht.2 rfl; rwa [hs] at this⟩
theorem wantT_sound (P : Program) (h : Rels T w0 S0 F st a w) {ops : List Oper} {o : Oper} {b : Bool} (hp : wantT ops st o = some b) : Region.wanted o (yielded ops.toArray a.tmps) = b := by
  unfold wantT at hp
  split at hp
  · rename_i hg
    cases hp
    exact wants_sound (P := P) (say := ⟨[], [], []⟩) (i := 0) (obl := []) h (by unfold wants; rw [hg]) (fun _ h => absurd h (by simp))
  · rename_i k want hg
    split at hp
    · rename_i d hd
      split at hp
      · rename_i t hs
        cases hp
        exact wants_sound (P := P) (say := ⟨[(k, t)], [], []⟩) (i := 0) (obl := [(std P T).eqb t t]) h (by unfold wants; rw [hg]; dsimp only; rw [hd]; dsimp only; rw [hs]; simp [look]) (fun p hp => by
          rcases List.mem_singleton.1 hp with rfl
          exact (rfl : t = t))
      · rename_i hs
        cases hp
        exact wants_sound (P := P) (say := ⟨[], [], []⟩) (i := 0) (obl := []) h (by unfold wants; rw [hg]; dsimp only; rw [hd]; dsimp only; rw [hs]) (fun _ h => absurd h (by simp))
      · cases hp
    · cases hp
theorem stepT0_sound (hT : TOk P T) (h : Rels T w0 S0 F st a w) {bk : Book} {ops : List Oper} {o : Oper} {i : Nat} {obl : List Prop} (hp : stepT0 T (std P T) bk ops st o i = some (st', obl)) (ho : ∀ p ∈ obl, p)
    {K : Act → World → Prop} {Q : Exit → Act → World → Prop} (hK : ∀ z w', Rels T w0 S0 F st' (a.put o.dst z) w' → K (a.put o.dst z) w') : o.wp P a w K Q := by
  unfold stepT0 at hp
  split at hp
  · rename_i c x y hop
    split at hp
    · rename_i t hc
      simp only [Option.some.injEq, Prod.mk.injEq] at hp
      obtain ⟨rfl, rfl⟩ := hp
      refine step1_sound (say := ⟨[], [(i, t)], []⟩) (ops := ops) (i := i) (obl := [(std P T).eqb t t]) hT h ?_ (fun p hp => by
          rcases List.mem_singleton.1 hp with rfl
          exact (rfl : t = t)) hK
      unfold step1 pureOp
      rw [hop]
      dsimp only
      rw [hc]
      simp [pickOf, look]
    · cases hp
  · exact step1_sound hT h hp ho hK
theorem xtra_step (hT : TOk P T) (h : Rels T w0 S0 F st a w) {o : Oper} {v : V} {obl : List Prop} (hp : xtraOp T (std P T) st o = some (v, obl)) (ho : ∀ p ∈ obl, p)
    {K : Act → World → Prop} {Q : Exit → Act → World → Prop} (hK : ∀ z, Rels T w0 S0 F (put st o.dst v) (a.put o.dst z) w → K (a.put o.dst z) w) : o.wp P a w K Q := by
  obtain ⟨S, bx, ph, h1, hsp⟩ := h
  obtain ⟨z, r1, r2⟩ := xtraOp_sound hT h1 hp ho
  refine wp_value (r1 w) (hK z ⟨S, bx, ph, ?_, ?_⟩)
  · cases hdst : o.dst with
    | none => exact h1
    | some d => exact h1.put d r2
  · cases hdst : o.dst with
    | none => exact hsp
    | some d => show st.r.getD (st.s.set d v).length .none = .none; rw [List.length_set]; exact hsp
theorem stepT_sound (hT : TOk P T) (h : Rels T w0 S0 F st a w) {bk : Book} {ops : List Oper} {o : Oper} {i : Nat} {obl : List Prop} (hp : stepT T (std P T) bk ops st o i = some (st', obl)) (ho : ∀ p ∈ obl, p)
    {K : Act → World → Prop} {Q : Exit → Act → World → Prop} (hK : ∀ z w', Rels T w0 S0 F st' (a.put o.dst z) w' → K (a.put o.dst z) w') : o.wp P a w K Q := by
  unfold stepT at hp
  split at hp
  · rename_i v obl' hx
    cases hp
    exact xtra_step hT h hx ho fun z hz => hK z w hz
  · exact stepT0_sound hT h hp ho hK
theorem nil_sound (hT : TOk P T) (h : Rel T w0 S0 F st a w S bx ph) {o : Oper} {n : Nat} {b : Bool} (hp : nilAsk T st o = some (n, b)) : ∃ c : Bool, (∀ w' : World, (execOp a.eval o).run P w' = .ok (.value (.bool c)) w') ∧ (c = b → n = 0) := by
  obtain ⟨dst, op, type, pos, after, guard⟩ := o
  have key : ∀ (op : BinOp) (t e : TypeId) (x y x' y' : Operand) (yt : TypeId) (aa : Option Addr) (m cap : Nat) (b : Bool), P.underlying t = some (.slice e) → a.eval x = .slice aa m cap → a.eval y = .slice none 0 0 → (aa.isSome = false → m = 0) → (op = .eql ∧ b = true ∨ op = .neq ∧ b = false) →
      ∃ c : Bool, (∀ w' : World, (execOp a.eval ⟨dst, .binOp op t x y yt, type, pos, after, guard⟩).run P w' = .ok (.value (.bool c)) w') ∧ (c = b → m = 0) := by
    intro op t e x y _ _ yt aa m cap b hu hx hy hm hop
    rcases hop with ⟨rfl, rfl⟩ | ⟨rfl, rfl⟩
    · refine ⟨aa.isNone, fun w' => ?_, fun hc => hm (by cases aa <;> simp_all)⟩
      have h1 := run_equal1 hu (.slice aa m cap) (.slice none 0 0) aa.isNone w' (by cases aa <;> rfl)
      simp [execOp, hx, hy, eqGuard, binOp, h1]
    · refine ⟨aa.isSome, fun w' => ?_, fun hc => hm hc⟩
      have h1 := run_equal1 hu (.slice aa m cap) (.slice none 0 0) aa.isNone w' (by cases aa <;> rfl)
      cases aa <;> simp [execOp, hx, hy, eqGuard, binOp, h1]
  unfold nilAsk at hp
  dsimp only at hp
  split at hp
  · rename_i op' t x y yt
    split at hp
    · rename_i e n' cs hd hy hx
      have hxr := ev_sound h x
      have hyr := ev_sound h y
      rw [hx] at hxr
      rw [hy] at hyr
      have hu := desc_of hT hd (by simp)
      have hxr' : CRep w S (a.eval x) (.sl n' cs) := hxr
      obtain ⟨aa, cap, hv⟩ := crep_sl hxr'
      rw [hv] at hxr'
      have hm : aa.isSome = false → n' = 0 := fun ha => by
        cases hxr' with
        | sl0 => rfl
        | sl => cases ha
      split at hp <;> first | (cases hp; done) | (cases hp; exact key _ t e x y x y yt aa _ cap _ hu hv (crep_nil hyr) hm (by simp))
    · rename_i e t' o' hd hy hx
      have hxr := ev_sound h x
      have hyr := ev_sound h y
      rw [hx] at hxr
      rw [hy] at hyr
      have hu := desc_of hT hd (by simp)
      obtain ⟨e1, n1, c1, hc1, hv⟩ := hxr
      split at hp <;> first | (cases hp; done) | (
        rename_i hown
        cases hp
        have hc := ownAt_eq hown
        rcases own_form (h.heap.cell hc) with ⟨q1, q2, _⟩ | ⟨g, cap, q1, _⟩
        · exact key _ t e x y x y yt none _ 0 _ hu (by rw [hv, q1, q2]) (crep_nil hyr) (fun _ => q2) (by simp)
        · exact key _ t e x y x y yt (some ⟨g, 0, none⟩) _ cap _ hu (by rw [hv, q1]) (crep_nil hyr) (fun hh => by cases hh) (by simp))
    · cases hp
  · cases hp
theorem runT_sound (hT : TOk P T) {bk : Book} {ops : List Oper} {Q : Exit → Act → World → Prop} {R : St → Prop} :
    ∀ (rest : List Oper) (i : Nat) (kn : List Nat) (st : St) (a : Act) (w : World), Rels T w0 S0 F st a w → (∀ k, rest[k]? = ops[i + k]?) → TrOk R (runT T (std P T) bk ops kn st rest i) →
      (∀ st' a' w', R st' → Rels T w0 S0 F st' a' w' → Q .normal a' w') → wpOps P ops.toArray Q ((List.range rest.length).map (i + ·)) a w := by
  intro rest
  induction rest with
  | nil =>
    intro i kn st a w h _ hr hQ
    exact hQ st a w hr h
  | cons o rest ih =>
    intro i kn st a w h hix hr hQ
    have hoi : ops[i]? = some o := by have := hix 0; simpa using this.symm
    have e1 : ((fun x => i + x) ∘ Nat.succ) = fun x => (i + 1) + x := by funext x; simp; omega
    have hix' : ∀ k, rest[k]? = ops[i + 1 + k]? := fun k => by
      have := hix (k + 1)
      rw [show i + 1 + k = i + (k + 1) by omega, ← this]; rfl
    rw [List.length_cons, List.range_succ_eq_map, List.map_cons, List.map_map, Nat.add_zero, wpOps_cons, e1]
    have hoi' : ops.toArray[i]? = some o := by simpa using hoi
    unfold wpOp
    rw [hoi']
    dsimp only
    -- what follows once no test is open
    have k2 : ∀ kn, TrOk R (nilGo (nilAsk T st o) (match stepT T (std P T) bk ops st o i with
        | some (st1, obl) => Tr.with obl (runT T (std P T) bk ops (learn kn st o) st1 rest (i + 1))
        | none => .bad) (fun b => runT T (std P T) bk ops (learnIf kn (o.dst.getD 0) o.dst.isSome) (putB st o.dst b) rest (i + 1))) → o.wp P a w (fun a' w' => wpOps P ops.toArray Q ((List.range rest.length).map (i + 1 + ·)) a' w') Q := by
      intro kn h2
      cases hq : nilAsk T st o with
      | some p =>
        obtain ⟨n, b⟩ := p
        rw [hq] at h2
        obtain ⟨ha, hb⟩ := h2
        obtain ⟨S, bx, ph, hrel, hsp⟩ := h
        obtain ⟨c, hc1, hc2⟩ := nil_sound hT hrel hq
        have hput : Rels T w0 S0 F (putB st o.dst c) (a.put o.dst (.bool c)) w := by
          refine ⟨S, bx, ph, ?_, ?_⟩
          · cases hdst : o.dst with
            | none => exact hrel
            | some d => exact hrel.put d (CRep.val rfl)
          · cases hdst : o.dst with
            | none => exact hsp
            | some d => show st.r.getD (st.s.set d _).length .none = .none; rw [List.length_set]; exact hsp
        refine wp_value (hc1 w) (ih (i + 1) (learnIf kn (o.dst.getD 0) o.dst.isSome) (putB st o.dst c) _ w hput hix' ?_ hQ)
        by_cases e : c = b
        · rw [e]; exact ha (hc2 e)
        · have : c = !b := by cases c <;> cases b <;> simp_all
          rw [this]; exact hb
      | none =>
      rw [hq] at h2
      simp only [nilGo] at h2
      split at h2
      · rename_i st1 obl h1
        obtain ⟨h3, h4⟩ := tr_with h2
        exact stepT_sound hT h h1 h3 fun z w' hz => ih (i + 1) _ st1 _ w' hz hix' h4 hQ
      · exact h2.elim
    unfold runT at hr
    dsimp only at hr
    have k1 : ∃ kn, TrOk R (match wantT ops st o with
      | some true =>
        match askT kn st (pickD o) with
        | some (d, b) => .cut b ((fun kn st => nilGo (nilAsk T st o) (match stepT T (std P T) bk ops st o i with
            | some (st1, obl) => Tr.with obl (runT T (std P T) bk ops (learn kn st o) st1 rest (i + 1))
            | none => Tr.bad) (fun b => runT T (std P T) bk ops (learnIf kn (o.dst.getD 0) o.dst.isSome) (putB st o.dst b) rest (i + 1))) (d :: kn) (setB st d true)) ((fun kn st => nilGo (nilAsk T st o) (match stepT T (std P T) bk ops st o i with
            | some (st1, obl) => Tr.with obl (runT T (std P T) bk ops (learn kn st o) st1 rest (i + 1))
            | none => Tr.bad) (fun b => runT T (std P T) bk ops (learnIf kn (o.dst.getD 0) o.dst.isSome) (putB st o.dst b) rest (i + 1))) (d :: kn) (setB st d false))
        | none => (fun kn st => nilGo (nilAsk T st o) (match stepT T (std P T) bk ops st o i with
            | some (st1, obl) => Tr.with obl (runT T (std P T) bk ops (learn kn st o) st1 rest (i + 1))
            | none => Tr.bad) (fun b => runT T (std P T) bk ops (learnIf kn (o.dst.getD 0) o.dst.isSome) (putB st o.dst b) rest (i + 1))) kn st
      | some false => runT T (std P T) bk ops kn (put st o.dst .nop) rest (i + 1)
      | none => .bad) := by
      split at hr
      · rename_i d b hask
        obtain ⟨kn', h2⟩ := tcut_sound (f := fun kn st => match wantT ops st o with
          | some true =>
            match askT kn st (pickD o) with
            | some (d, b) => .cut b ((fun kn st => nilGo (nilAsk T st o) (match stepT T (std P T) bk ops st o i with
                | some (st1, obl) => Tr.with obl (runT T (std P T) bk ops (learn kn st o) st1 rest (i + 1))
                | none => Tr.bad) (fun b => runT T (std P T) bk ops (learnIf kn (o.dst.getD 0) o.dst.isSome) (putB st o.dst b) rest (i + 1))) (d :: kn) (setB st d true)) ((fun kn st => nilGo (nilAsk T st o) (match stepT T (std P T) bk ops st o i with
                | some (st1, obl) => Tr.with obl (runT T (std P T) bk ops (learn kn st o) st1 rest (i + 1))
                | none => Tr.bad) (fun b => runT T (std P T) bk ops (learnIf kn (o.dst.getD 0) o.dst.isSome) (putB st o.dst b) rest (i + 1))) (d :: kn) (setB st d false))
            | none => (fun kn st => nilGo (nilAsk T st o) (match stepT T (std P T) bk ops st o i with
                | some (st1, obl) => Tr.with obl (runT T (std P T) bk ops (learn kn st o) st1 rest (i + 1))
                | none => Tr.bad) (fun b => runT T (std P T) bk ops (learnIf kn (o.dst.getD 0) o.dst.isSome) (putB st o.dst b) rest (i + 1))) kn st
          | some false => runT T (std P T) bk ops kn (put st o.dst .nop) rest (i + 1)
          | none => .bad) hask hr
        exact ⟨kn', h2⟩
      · exact ⟨kn, hr⟩
    obtain ⟨kn1, h1⟩ := k1
    split at h1
    · rename_i hw
      rw [if_pos (wantT_sound P h hw)]
      refine .inl ?_
      split at h1
      · rename_i d b hask
        obtain ⟨kn', h2⟩ := tcut_sound (f := fun kn st => nilGo (nilAsk T st o) (match stepT T (std P T) bk ops st o i with
            | some (st1, obl) => Tr.with obl (runT T (std P T) bk ops (learn kn st o) st1 rest (i + 1))
            | none => Tr.bad) (fun b => runT T (std P T) bk ops (learnIf kn (o.dst.getD 0) o.dst.isSome) (putB st o.dst b) rest (i + 1))) hask h1
        exact k2 kn' h2
      · exact k2 kn1 h1
    · rename_i hw
      rw [if_neg (by rw [wantT_sound P h hw]; simp)]
      refine ih (i + 1) kn1 _ _ w ?_ hix' h1 hQ
      obtain ⟨S, bx, ph, h3, hsp⟩ := h
      refine ⟨S, bx, ph, nop_put h3 _, ?_⟩
      cases hdst : o.dst with
      | none => exact hsp
      | some d => show st.r.getD (st.s.set d .nop).length .none = .none; rw [List.length_set]; exact hsp
    · exact h1.elim
/-- the last region of a code -/
theorem aw_tr1 {j : J} (hj : j = std P T) (hT : TOk P T) (bk : Book) {id : Nat} {ops : Array Oper} {t : Tr} (hr : runT T j bk ops.toList [] st ops.toList 0 = t) (h : TrOk (Q .normal) t) : Aw P T (.region id ops false) Q st := by
  rw [hj] at hr
  intro w0 S0 F a w hrel
  refine wp_region ?_
  have := runT_sound (Q := fun e a' w' => ∃ st', Q e st' ∧ Rels T w0 S0 F st' a' w') (R := Q .normal) hT ops.toList 0 [] st a w hrel (fun k => by rw [Nat.zero_add]) (by rw [hr]; exact h) (fun st' a' w' hR h' => ⟨st', hR, h'⟩)
  simpa using this
/-- a region and what follows -/
theorem aw_tr {j : J} (hj : j = std P T) (hT : TOk P T) (bk : Book) {id : Nat} {ops : Array Oper} {y : Code} {t : Tr} (hr : runT T j bk ops.toList [] st ops.toList 0 = t) (h : TrOk (Aw P T y Q) t) : Aw P T (.seq (.region id ops false) y) Q st := by
  refine aw_seq fun K hK => aw_tr1 hj hT bk hr ?_
  have : ∀ t, TrOk (Aw P T y Q) t → TrOk (Th K Q .normal) t := by
    intro t
    induction t with
    | done st => exact fun h => hK st h
    | ob l t ih => exact fun h => ⟨h.1, ih h.2⟩
    | cut b x y ih1 ih2 => exact fun h => ⟨fun hb => ih1 (h.1 hb), fun hb => ih2 (h.2 hb)⟩
    | alt n x y ih1 ih2 => exact fun h => ⟨fun hb => ih1 (h.1 hb), ih2 h.2⟩
    | bad => exact fun h => h
  exact this t h
theorem th_n {K : St → Prop} (h : K st) : Th K Q .normal st := h
theorem th_r {K : St → Prop} (h : Q .ret st) : Th K Q .ret st := h
theorem th_x {K : St → Prop} {id : Nat} (h : Q (.exit id) st) : Th K Q (.exit id) st := h
theorem blk_n {id : Nat} (h : Q .normal st) : Blk id Q .normal st := h
theorem blk_r {id : Nat} (h : Q .ret st) : Blk id Q .ret st := h
theorem blk_x {id : Nat} (h : Q .normal st) : Blk id Q (.exit id) st := by simp only [Blk, if_pos]; exact h
theorem blk_y {id id' : Nat} (hne : (id' == id) = false) (h : Q (.exit id') st) : Blk id Q (.exit id') st := by
  have : ¬ id' = id := by simpa using hne
  simp only [Blk, if_neg this]; exact h
theorem aw_condj {c : Operand} {x y : Code} {b : Bool} (hc : ev st.s c = .one (.c (.val (.bool b)))) (ht : b = true → Aw P T x Q st) (hf : b = false → Aw P T y Q st) : Aw P T (.cond c x y) Q st := aw_cond hc ht hf
theorem ret_okj {j : J} (hj : j = std P T) {fn : Func} {ret : RV} {vs : List V} {row : List RC} {obl : List Prop} (h : retOf T j fn.results.toList st = some (vs, row, obl)) (ho : ∀ p ∈ obl, p) (he : ret = ⟨decide (fn.results.size ≠ 1), splitRow vs row⟩) {N : Nat} : RetOk P T fn st ret [] N := by
  rw [hj] at h
  exact ⟨⟨vs, row, obl, row, h, ho, LeRow.refl _, he⟩, .inl rfl⟩
theorem LeRoot.refl_or : ∀ R : Root, (∀ l, R ≠ .loose l) → LeRoot R R
  | .none, _ => .none _
  | .box _, _ => .box (LeRow.refl _)
  | .loose l, h => absurd rfl (h l)
def noLoose : List Root → Bool
  | [] => true
  | .loose _ :: _ => false
  | _ :: rs => noLoose rs
theorem leRoots {outs upd : List Root} (h : upd = outs) (hn : noLoose upd = true) : ∀ (k : Nat) (R : Root), upd[k]? = some R → LeRoot (outs.getD k .none) R := by
  subst h
  intro k R hk
  rw [List.getD_eq_getElem?_getD, hk]
  refine LeRoot.refl_or R fun l e => ?_
  subst e
  have key : ∀ (us : List Root) (k : Nat), noLoose us = true → us[k]? = some (Root.loose l) → False := by
    intro us
    induction us with
    | nil => intro k _ h; simp at h
    | cons u us ih =>
      intro k hn h
      cases k with
      | zero => simp only [List.getElem?_cons_zero, Option.some.injEq] at h; subst h; cases hn
      | succ k => exact ih k (by cases u <;> first | exact hn | cases hn) (by simpa using h)
  exact key _ k hn hk
/-- the end of a function that roots came into -/
theorem ret_okU {j : J} (hj : j = std P T) {fn : Func} {ret : RV} {vs : List V} {row : List RC} {obl : List Prop} {N : Nat} {outs upd : List Root} (h : retOf T j fn.results.toList st = some (vs, row, obl)) (hN : st.s.length = N) (h2 : outsOf T j fn.results.toList st = outs)
    (ho : ∀ p ∈ obl, p) (hu : upd = outs) (hn : noLoose upd = true) (he : ret = ⟨decide (fn.results.size ≠ 1), splitRow vs row⟩) : RetOk P T fn st ret upd N := by
  rw [hj] at h h2
  refine ⟨⟨vs, row, obl, row, h, ho, LeRow.refl _, he⟩, .inr ⟨hN, ?_⟩⟩
  rw [h2]
  exact leRoots hu hn
end Go.Proofs.Ytdmdcmhgfgookaa.A
