/- The ghost machine, between parts 27 and 28: boxes that nobody changes any more; arrays. -/
import Derived.Test.YtdmdcmhgfgookaaAm27
set_option linter.unusedSimpArgs false
set_option linter.unusedVariables false
set_option maxRecDepth 100000
set_option maxHeartbeats 4000000
namespace Go.Proofs.Ytdmdcmhgfgookaa.A
open Go Go.RowKit
variable {P : Program} {T : TT} {w w' w0 : World} {S S0 : Nat → Prop} {F : Fr} {bx : Nat → Nat} {ph : Nat → Nat → Pv} {a : Act} {st st' : St} {Q : Exit → St → Prop}

/-! ### a box that nobody changes any more -/
def stCells : List RC → Option (List C)
  | [] => some []
  | .st c :: r => match stCells r with | some l => some (c :: l) | none => none
  | _ :: _ => none
theorem stCells_get : ∀ (row : List RC) (cs : List C), stCells row = some cs → row = cs.map .st := by
  intro row
  induction row with
  | nil => intro cs h; simp only [stCells, Option.some.injEq] at h; subst h; rfl
  | cons rc row ih =>
    intro cs h
    cases rc with
    | st c =>
      unfold stCells at h
      split at h
      · rename_i l hl; cases h; rw [ih l hl]; rfl
      · cases h
    | own e n cells => cases h
    | map kk m => cases h
    | tree sh c p => cases h
    | me f => cases h
    | dead => cases h
def fbX (t : Nat) (cells : List C) (x : X) : X :=
  if ofRoot t x then match x with | .ptr _ o => .mem cells o | _ => .undef else x
def frzBox (t : Nat) (st : St) : Option St :=
  match rootOf st.r t with
  | .box row => match stCells row with | some cs => some { s := st.s.map (mapV (fbX t cs)), r := st.r.set t .none } | none => none
  | _ => none
theorem frzBox_le {t : Nat} (hf : frzBox t st = some st') : Le T st st' := by
  intro w0 S0 F a w ⟨S, bx, ph, h, hsp⟩
  unfold frzBox at hf
  split at hf
  · rename_i row hrow
    split at hf
    · rename_i cs hcs
      cases hf
      have hrow' : st.r.getD t .none = .box row := hrow
      have hr := stCells_get row cs hcs
      have hown := owns_of_box (bx := bx) (ph := ph) hrow'
      have hbox := h.heap.root t
      rw [hrow'] at hbox
      obtain ⟨⟨arr, e, hb, hsz, harr⟩, hcell⟩ := hbox
      have hg : ∀ v, (st.r.set t .none).getD v .none = if v = t then .none else st.r.getD v .none := fun v => by
        rw [getD_set]
        by_cases e1 : v = t
        · subst e1
          by_cases e2 : v < st.r.length
          · simp [e2]
          · simp only [e2, and_false, if_false, if_true]
            rw [List.getD_eq_getElem?_getD, List.getElem?_eq_none (by omega)]; rfl
        · rw [if_neg (fun hh => e1 hh.1.symm), if_neg e1]
      have hown' : ∀ v κ b, owns (st.r.set t .none) bx ph v κ b → v ≠ t ∧ owns st.r bx ph v κ b := fun v κ b hb => by
        by_cases e1 : v = t
        · subst e1
          exact (owns_none _ _ _ (by rw [hg, if_pos rfl]) _ _ hb).elim
        · refine ⟨e1, ?_⟩
          cases κ with
          | none =>
            obtain ⟨row', k1, rfl⟩ := owns_box hb
            rw [hg, if_neg e1] at k1; exact owns_of_box k1
          | some o =>
            obtain ⟨rc, k1, k2⟩ := owns_cell hb
            rw [hg, if_neg e1] at k1; exact own_blk k1 k2
      have hheap : Heap T w (fun b => S b ∨ b = bx t) (st.r.set t .none) bx ph := by
        refine ⟨fun v => ?_, fun v κ v2 κ2 b b1 b2 => h.heap.inj v κ v2 κ2 b (hown' v κ b b1).2 (hown' v2 κ2 b b2).2, fun v κ b b1 => ?_, ⟨fun b hb => ?_, h.heap.low.2.frame (fun _ _ => rfl) (fun _ h => .inl h)⟩⟩
        · rw [hg]
          split
          · trivial
          · have hr := h.heap.root v
            cases hR : st.r.getD v .none with
            | none => trivial
            | box row =>
              rw [hR] at hr
              exact ⟨hr.1, fun o ho => (hr.2.1 o ho).frame (fun _ _ => rfl) (fun _ h => .inl h) (fun _ _ => rfl), hr.2.2⟩
            | loose row =>
              rw [hR] at hr
              exact fun o ho => (hr o ho).frame (fun _ _ => rfl) (fun _ h => .inl h) (fun _ _ => rfl)
        · obtain ⟨n1, c1⟩ := hown' v κ b b1
          refine ⟨fun hs => ?_, (h.heap.free v κ b c1).2⟩
          rcases hs with hs | hs
          · exact (h.heap.free v κ b c1).1 hs
          · subst hs; exact n1 (h.heap.inj _ _ _ _ _ c1 hown).1
        · rcases hb with hb | hb
          · exact h.heap.low.1 b hb
          · subst hb; exact (h.heap.free _ _ _ hown).2
      refine ⟨_, bx, ph, h.ghost (fbX t cs) rfl (by simp) hheap (fun v κ b hb => ⟨v, κ, (hown' v κ b hb).2⟩) (fun u y hu => ?_) (fun _ h => .inl h) (fun b hb => ?_), ?_⟩
      · unfold fbX
        split
        · split
          · rename_i t' o hof
            have e1 : t' = t := by simpa [ofRoot] using hof
            subst e1
            obtain ⟨row', q1, q2, q3⟩ := hu
            refine ⟨bx t', 0, fun k => (ph t' k).v, by rw [q3, Nat.zero_add], .inr rfl, fun k hk => ?_, fun k hk => ?_⟩
            · have hk2 : k < row.length := by rw [hr, List.length_map]; exact hk
              rw [Nat.zero_add]
              simp [World.cell?, hb, harr k hk2]
            · have hk2 : k < row.length := by rw [hr, List.length_map]; exact hk
              have h3 := hcell.1 k hk2
              have e2 : row[k] = .st cs[k] := by simp [hr]
              rw [e2] at h3
              exact CRep.frame h3 (fun _ _ => rfl) (fun _ h => .inl h)
          · trivial
        · rename_i hof
          refine (hu.frame (w' := w) (S' := fun b => S b ∨ b = bx t) (fun _ _ => rfl) (fun _ h => .inl h)).congr (fun t' o' rc' ho' how hc' => ⟨?_, rfl⟩) (fun t' o' he row h1 h2 => ?_) (fun f caps he t' ht row h1 => ?_)
          · have n1 : t' ≠ t := fun e1 => by
              subst e1
              rw [hrow'] at hc'
              have hc2 : row[o']? = some rc' := hc'
              rw [hr, List.getElem?_map] at hc2
              cases hq : cs[o']? with
              | none => rw [hq] at hc2; cases hc2
              | some c => rw [hq] at hc2; cases hc2; cases how
            rw [hg, if_neg n1]; exact hc'
          · have n1 : t' ≠ t := fun e1 => by subst e1; subst he; simp [ofRoot] at hof
            exact ⟨row, by rw [hg, if_neg n1]; exact h1, h2, rfl⟩
          · have n1 : t' ≠ t := fun e1 => by subst e1; exact hof (ofRoot_caps he ht)
            exact ⟨row, by rw [hg, if_neg n1]; exact h1, rfl, rfl⟩
      · rcases hb with hb | hb
        · exact .inl hb
        · exact .inr ⟨t, none, by rw [hb]; exact hown⟩
      · show (st.r.set t .none).getD (st.s.map (mapV (fbX t cs))).length .none = .none
        rw [List.length_map, hg]
        split
        · rfl
        · exact hsp
    · cases hf
  · cases hf
theorem aw_frz {c : Code} (t : Nat) (hf : frzBox t st = some st') (h : Aw P T c Q st') : Aw P T c Q st := aw_le (frzBox_le hf) h

/-! ### arrays -/
def plainC : List X → Option (List C)
  | [] => some []
  | .c c :: r => match plainC r with | some l => some (c :: l) | none => none
  | _ :: _ => none
theorem plainC_get : ∀ (xs : List X) (cs : List C), plainC xs = some cs → xs = cs.map .c := by
  intro xs
  induction xs with
  | nil => intro cs h; simp only [plainC, Option.some.injEq] at h; subst h; rfl
  | cons x xs ih =>
    intro cs h
    cases x with
    | c c =>
      unfold plainC at h
      split at h
      · rename_i l hl; cases h; rw [ih l hl]; rfl
      · cases h
    | view => cases h
    | mv => cases h
    | sub => cases h
    | ptr => cases h
    | eptr => cases h
    | mem => cases h
    | fn => cases h
    | tv => cases h
    | tp => cases h
    | bfn => cases h
    | undef => cases h
def arrOf (T : TT) (t : TypeId) : Option (Nat × TypeId × TI) :=
  match descOf T t with
  | .array n e => match T e with | some te => some (n, e, te) | none => none
  | _ => none
theorem arrOf_desc (hT : TOk P T) {t e : TypeId} {n : Nat} {te : TI} (h : arrOf T t = some (n, e, te)) : P.underlying t = some (.array n e) ∧ T e = some te := by
  unfold arrOf at h
  split at h
  · rename_i n' e' hd
    split at h
    · rename_i te' hte
      cases h
      exact ⟨desc_of hT hd (by simp), hte⟩
    · cases h
  · cases h
def arrF (e : TypeId) (sz n : Nat) : Array Field := ((List.range n).map fun i => ({ (default : Field) with type := e, offset := i * sz } : Field)).toArray
/-- is it nil, which it is held against ? -/
def isNilV (T : TT) (t : TypeId) (x y : V) : Option Bool :=
  match descOf T t, x, y with
  | .pointer _, .one (.ptr _ _), .one (.c (.val (.pointer none))) => some false
  | .pointer _, .one (.mem _ _), .one (.c (.val (.pointer none))) => some false
  | .slice _, .one (.c .nil), .one (.c .nil) => some true
  | .map _ _, .one (.mv _ _), .one (.c (.val (.map none))) => some false
  | _, _, _ => none
def oddV : Value → Bool
  | .pointer _ | .slice _ _ _ | .map _ => true
  | _ => false
theorem binOp_nil {t : TypeId} {u v : Value} {b : Bool} (h : oddV u = true ∧ ∀ w' : World, (Op.equal t u v).run P w' = .ok b w') {w' : World} : (binOp .eql t u v).run P w' = .ok (.bool b) w' := by
  obtain ⟨h1, h2⟩ := h
  cases u <;> simp [oddV] at h1 <;> simp [binOp, h2]
theorem binOp_nil_neq {t : TypeId} {u v : Value} {b : Bool} (h : oddV u = true ∧ ∀ w' : World, (Op.equal t u v).run P w' = .ok b w') {w' : World} : (binOp .neq t u v).run P w' = .ok (.bool (!b)) w' := by
  obtain ⟨h1, h2⟩ := h
  cases u <;> simp [oddV] at h1 <;> simp [binOp, h2]
theorem run_equal1 {t : TypeId} {d : TypeDesc} (hu : P.underlying t = some d) (x y : Value) (b : Bool) (w' : World) (h : (match d, x, y with
    | .pointer _, .pointer none, .pointer b => some b.isNone
    | .pointer _, .pointer _, .pointer none => some false
    | .slice _, .slice none _ _, .slice b _ _ => some b.isNone
    | .slice _, .slice _ _ _, .slice none _ _ => some false
    | .map _ _, .map none, .map b => some b.isNone
    | .map _ _, .map _, .map none => some false
    | _, _, _ => none) = some b) : (Op.equal t x y).run P w' = .ok b w' := by
  unfold Op.equal
  obtain ⟨n, hn⟩ : ∃ n, Op.maxDepth = n + 1 := ⟨_, rfl⟩
  rw [hn, Op.equalIn]
  simp only [Sem.run_bind, run_underlying hu, Result.andThen_ok]
  split at h <;> first | (cases h; rfl) | (cases h; simp) | (cases h; done)
theorem isNilV_sound (hT : TOk P T) (h : Rel T w0 S0 F st a w S bx ph) {t : TypeId} {x y : Operand} {b : Bool} (hp : isNilV T t (ev st.s x) (ev st.s y) = some b) :
    (oddV (a.eval x) = true ∧ ∀ w' : World, (Op.equal t (a.eval x) (a.eval y)).run P w' = .ok b w') ∧ ∀ (op : BinOp) (w' : World), (eqGuard op t x y (a.eval x) (a.eval y)).run P w' = .ok () w' := by
  have h1 := ev_sound h x
  have h2 := ev_sound h y
  have hg : ∀ u v : Value, oddV u = true → ∀ (op : BinOp) (w' : World), (eqGuard op t x y u v).run P w' = .ok () w' := fun u v hu op w' => by
    cases u <;> simp [oddV] at hu <;> (unfold eqGuard; split <;> simp)
  unfold isNilV at hp
  split at hp
  · rename_i e t' o' hd hx hy
    cases hp
    rw [hx] at h1
    rw [hy] at h2
    obtain ⟨_, _, _, h1⟩ := h1
    have hu := desc_of hT hd (by simp)
    rw [h1, (crep_val h2).1]
    exact ⟨⟨rfl, fun w' => run_equal1 hu _ _ _ w' rfl⟩, hg _ _ rfl⟩
  · rename_i e cells off hd hx hy
    cases hp
    rw [hx] at h1
    rw [hy] at h2
    obtain ⟨_, _, _, h1, _⟩ := h1
    have hu := desc_of hT hd (by simp)
    rw [h1, (crep_val h2).1]
    exact ⟨⟨rfl, fun w' => run_equal1 hu _ _ _ w' rfl⟩, hg _ _ rfl⟩
  · rename_i e hd hx hy
    cases hp
    rw [hx] at h1
    rw [hy] at h2
    have hu := desc_of hT hd (by simp)
    rw [crep_nil h1, crep_nil h2]
    exact ⟨⟨rfl, fun w' => run_equal1 hu _ _ _ w' rfl⟩, hg _ _ rfl⟩
  · rename_i k e t' o' hd hx hy
    cases hp
    rw [hx] at h1
    rw [hy] at h2
    obtain ⟨kk, m, hc, h1⟩ := h1
    obtain ⟨b, q1, _⟩ := h.heap.cell hc
    rw [q1] at h1
    have hu := desc_of hT hd (by simp)
    rw [h1, (crep_val h2).1]
    exact ⟨⟨rfl, fun w' => run_equal1 hu _ _ _ w' rfl⟩, hg _ _ rfl⟩
  · cases hp
/-- what the parts 1 to 27 leave out; reads no memory -/
def xtraOp (T : TT) (j : J) (st : St) (o : Oper) : Option (V × List Prop) :=
  match o.op with
  | .index t x i =>
    match arrOf T t, ev st.s x, num (ev st.s i) with
    | some (n, _, te), .agg xs, some i =>
      match plainC xs, te.cells with
      | some cs, [k] => if te.size = 1 ∧ isAggD te.desc = false ∧ xs.length = n then some (.one (.c (shape j k (j.cell cs (j.toNat i)))), [j.inb i n, j.ok k (j.cell cs (j.toNat i))]) else none
      | _, _ => none
    | _, _, _ => none
  | .indexAddr t x i =>
    match arrOf T t, ev st.s x, num (ev st.s i) with
    | some (n, _, te), .one (.mem cells k), some i => some (.one (.mem cells (plus j k (mulSz j (j.toNat i) te.size))), [j.inb i n])
    | _, _, _ => none
  | .makeFunc (.func f) first captured =>
    if first.isEmpty then
      match optAll (captured.toList.map fun x => ptrOf (ev st.s x)) with
      | some ts => if ts.all (fun t => (rootOf st.r t).isBox) then some (.one (.fn f ts), []) else none
      | none => none
    else
      match first.toList, captured.isEmpty with
      | [x], true =>
        match ev st.s x with
        | .one (.ptr t 0) => if (rootOf st.r t).isBox then some (.one (.bfn f t), []) else none
        | _ => none
      | _, _ => none
  | .binOp .eql t x y _ => match isNilV T t (ev st.s x) (ev st.s y) with | some b => some (.one (.c (.val (.bool b))), []) | none => none
  | .binOp .neq t x y _ => match isNilV T t (ev st.s x) (ev st.s y) with | some b => some (.one (.c (.val (.bool (!b)))), []) | none => none
  | .call { callee := .builtin .min, args, .. } =>
    match args.toList with
    | [x, y] => match ev st.s x, ev st.s y with | .one (.c (.val (.int k a))), .one (.c (.val (.int _ b))) => some (.one (.c (.val (.int k (j.imin a b)))), []) | _, _ => none
    | _ => none
  | .call { callee := .builtin .max, args, .. } =>
    match args.toList with
    | [x, y] => match ev st.s x, ev st.s y with | .one (.c (.val (.int k a))), .one (.c (.val (.int _ b))) => some (.one (.c (.val (.int k (j.imax a b)))), []) | _, _ => none
    | _ => none
  | .call { callee := .builtin .cap, args, argTypes } =>
    match args.toList, argTypes.toList with
    | [x], [t] => match descOf T t, ev st.s x with | .slice _, .one (.c .nil) => some (.one (.c (.val (.int .i64 0))), []) | _, _ => none
    | _, _ => none
  | .slice t x lo hi none =>
    match elemOf T t, ev st.s x with
    | some _, .one (.c .nil) => match cutV j 0 (lo.map fun l => num (ev st.s l)) (hi.map fun h => num (ev st.s h)) with | some (_, _, obl) => some (.one (.c .nil), obl) | none => none
    | _, _ => none
  | .build t parts =>
    match T t, arrOf T t with
    | some ti, some (n, e, te) =>
      match constV ti.zero with
      | .agg zs => match buildX T (arrF e te.size n) zs (parts.toList.map fun p => (p.1, ev st.s p.2)) with | some xs => some (.agg xs, []) | none => none
      | _ => none
    | _, _ => none
  | _ => none
theorem xtraOp_sound (hT : TOk P T) (h : Rel T w0 S0 F st a w S bx ph) {o : Oper} {V : V} {obl : List Prop} (hp : xtraOp T (std P T) st o = some (V, obl)) (ho : ∀ p ∈ obl, p) :
    ∃ z, (∀ w' : World, (execOp a.eval o).run P w' = .ok (.value z) w') ∧ VRep T w S st.r bx ph z V := by
  obtain ⟨dst, op, type, pos, after, guard⟩ := o
  unfold xtraOp at hp
  dsimp only at hp
  split at hp
  · rename_i t x i
    split at hp
    · rename_i n e te xs i' harr hx hi
      split at hp
      · rename_i cs k hpl hk
        split at hp
        · rename_i hc
          obtain ⟨c1, c2, c3⟩ := hc
          cases hp
          obtain ⟨ha, hte⟩ := arrOf_desc hT harr
          obtain ⟨kk, hv⟩ := num_sound (ev_sound h i) hi
          have h0 : 0 ≤ i' ∧ i' < (n : Int) := ho _ (List.mem_cons_self ..)
          have hok : okK k (cellAt cs i'.toNat) := ho _ (List.mem_cons_of_mem _ (List.mem_cons_self ..))
          have hxr := ev_sound h x
          rw [hx] at hxr
          obtain ⟨us, hu, hus, hur⟩ := hxr
          have hxs := plainC_get xs cs hpl
          have hlen : cs.length = xs.length := by rw [hxs]; simp
          have hlt : i'.toNat < us.size := by omega
          have hlt2 : i'.toNat < xs.length := by omega
          have hcr : CRep w S us[i'.toNat] (cellAt cs i'.toNat) := by
            have h1 := hur i'.toNat hlt2 hlt
            have e1 : xs[i'.toNat] = .c (cellAt cs i'.toNat) := by
              have : i'.toNat < cs.length := by omega
              simp [hxs, cellAt, List.getD_eq_getElem?_getD, List.getElem?_eq_getElem this]
            rw [e1] at h1; exact h1
          refine ⟨us[i'.toNat], fun w' => ?_, shape_sound hcr hok⟩
          simp [execOp, Instr.index, hu, hv, asIntOf, run_underlying ha, h0, part, run_isAgg hT hte, c2, run_sizeOf hT hte, c1, hlt]
        · cases hp
      · cases hp
    · cases hp
  · rename_i t x i
    split at hp
    · rename_i n e te cells k i' harr hx hi
      cases hp
      obtain ⟨ha, hte⟩ := arrOf_desc hT harr
      obtain ⟨kk, hv⟩ := num_sound (ev_sound h i) hi
      have h0 : 0 ≤ i' ∧ i' < (n : Int) := ho _ (List.mem_cons_self ..)
      have hxr := ev_sound h x
      rw [hx] at hxr
      obtain ⟨b, base, vs, hu, q1, q2, q3⟩ := hxr
      refine ⟨.pointer (some ⟨b, base + (k + i'.toNat * te.size), none⟩), fun w' => ?_, ⟨b, base, vs, by rw [plus_std, mulSz_std]; rfl, q1, q2, q3⟩⟩
      simp [execOp, Instr.indexAt, hu, hv, asIntOf, run_underlying ha, h0, run_sizeOf hT hte, Instr.sureAddr, Addr.add_lit, Nat.add_assoc]
    · cases hp
  · rename_i f first captured
    split at hp
    · rename_i hf
      split at hp
      · rename_i ts hts
        split at hp
        · rename_i hbox
          cases hp
          have h2 := optAll_some _ _ hts
          have hfe : first = #[] := by simpa using hf
          subst hfe
          have hlen : captured.size = ts.length := by have := congrArg List.length h2; simpa using this
          have hcap : ∀ k (h1 : k < captured.size) (h3 : k < ts.length), a.eval captured[k] = .pointer (some ⟨bx ts[k], 0, none⟩) := fun k h1 h3 => by
            have h4 := congrArg (fun l => l[k]?) h2
            simp only [List.getElem?_map, Array.getElem?_toList, Array.getElem?_eq_getElem h1, List.getElem?_eq_getElem h3, Option.map_some, Option.some.injEq] at h4
            have h5 := ev_sound h captured[k]
            unfold ptrOf at h4
            split at h4
            · rename_i t he
              cases h4
              rw [he] at h5
              obtain ⟨_, _, _, q⟩ := h5
              exact q
            · cases h4
          refine ⟨.func (.func f) #[] (captured.map a.eval), fun w' => by simp [execOp, Instr.makeFunc], ?_, fun t ht => ?_⟩
          · congr 1
            apply Array.ext
            · simp [hlen]
            · intro k h1 h3
              have h1' : k < captured.size := by simpa using h1
              have h3' : k < ts.length := by simpa using h3
              simp [hcap k h1' h3']
          · obtain ⟨row, q1, q2⟩ := isBox_some (List.all_eq_true.1 hbox t ht)
            exact ⟨row, q1, q2⟩
        · cases hp
      · cases hp
    · split at hp
      · rename_i x hfl hce
        split at hp
        · rename_i t hx
          split at hp
          · rename_i hbox
            cases hp
            obtain ⟨row, q1, q2⟩ := isBox_some hbox
            have h5 := ev_sound h x
            rw [hx] at h5
            obtain ⟨_, _, _, q⟩ := h5
            obtain ⟨first⟩ := first
            simp only at hfl
            subst hfl
            have hce : captured = #[] := by simpa using hce
            subst hce
            exact ⟨meV f (bx t), fun w' => by simp [execOp, Instr.makeFunc, q, meV], ⟨row, q1, q2⟩, rfl⟩
          · cases hp
        · cases hp
      · cases hp
  · rename_i t x y yt
    split at hp
    · rename_i b hb
      cases hp
      obtain ⟨h1, h2⟩ := isNilV_sound hT h hb
      exact ⟨.bool b, fun w' => by simp [execOp, h2, binOp_nil h1], CRep.val rfl⟩
    · cases hp
  · rename_i t x y yt
    split at hp
    · rename_i b hb
      cases hp
      obtain ⟨h1, h2⟩ := isNilV_sound hT h hb
      exact ⟨.bool (!b), fun w' => by simp [execOp, h2, binOp_nil_neq h1], CRep.val rfl⟩
    · cases hp
  · rename_i args ats
    split at hp
    · rename_i x y hax
      split at hp
      · rename_i k u k' v hx hy
        cases hp
        have h1 := ev_sound h x
        have h2 := ev_sound h y
        rw [hx] at h1
        rw [hy] at h2
        obtain ⟨args⟩ := args
        simp only at hax
        subst hax
        refine ⟨.int k (if v < u then v else u), fun w' => ?_, CRep.val rfl⟩
        simp [execOp, resolve, invoke, builtin, (crep_val h1).1, (crep_val h2).1, Builtin.min_, Builtin.min2]
      · cases hp
    · cases hp
  · rename_i args ats
    split at hp
    · rename_i x y hax
      split at hp
      · rename_i k u k' v hx hy
        cases hp
        have h1 := ev_sound h x
        have h2 := ev_sound h y
        rw [hx] at h1
        rw [hy] at h2
        obtain ⟨args⟩ := args
        simp only at hax
        subst hax
        refine ⟨.int k (if v > u then v else u), fun w' => ?_, CRep.val rfl⟩
        simp [execOp, resolve, invoke, builtin, (crep_val h1).1, (crep_val h2).1, Builtin.max_, Builtin.max2]
      · cases hp
    · cases hp
  · rename_i args ats
    split at hp
    · rename_i x t hax hat
      split at hp
      · rename_i e hd hx
        cases hp
        have h1 := ev_sound h x
        rw [hx] at h1
        obtain ⟨args⟩ := args
        obtain ⟨ats⟩ := ats
        simp only at hax hat
        subst hax; subst hat
        have hu : P.underlying t = some (.slice e) := desc_of hT hd (by simp)
        refine ⟨.int .i64 0, fun w' => ?_, CRep.val rfl⟩
        simp [execOp, resolve, invoke, builtin, crep_nil h1, Builtin.cap_, run_underlying hu, goInt]
      · cases hp
    · cases hp
  · rename_i t x lo hi
    split at hp
    · rename_i p he hx
      split at hp
      · rename_i l hh obl' hcut
        cases hp
        obtain ⟨e, te⟩ := p
        obtain ⟨q1, q2, q3⟩ := elemOf_desc hT he
        have h1 := ev_sound h x
        rw [hx] at h1
        obtain ⟨c1, c2, c3⟩ := cut_sound (P := P) (T := T) (b := true) (cap := 0) (n := 0) (Nat.le_refl _) (brep_sound h lo) (brep_sound h hi) hcut ho
        have e1 : l = 0 := by omega
        have e2 : hh = 0 := by omega
        subst e1; subst e2
        refine ⟨.slice none 0 0, fun w' => ?_, CRep.nil⟩
        simp [execOp, crep_nil h1, Instr.sliceAt, Instr.slice, run_underlying q1, c3 w', run_sizeOf hT q2]
      · cases hp
    · cases hp
  · rename_i t parts
    split at hp
    · rename_i ti n e te ht harr
      split at hp
      · rename_i zs hz
        split at hp
        · rename_i xs hb
          cases hp
          obtain ⟨ha, hte⟩ := arrOf_desc hT harr
          obtain ⟨h1, i, h2, h3, h4, h5, _⟩ := hT t ti ht
          obtain ⟨_, ie, g2, g3, _⟩ := hT e te hte
          have hzr := const_sound (T := T) (w := w) (S := S) (bx := bx) (ph := ph) (r := st.r) ti.zero
          rw [hz] at hzr
          obtain ⟨zc, hzv, hzx⟩ := hzr
          obtain ⟨cells', f1, f2⟩ := fill_sound hT h.heap (fields := arrF e te.size n) (place := fun i => some (i * te.size, te.size)) (fun i fd tf hi ht => by
            unfold arrF at hi
            simp only [List.getElem?_toArray, List.getElem?_map] at hi
            cases hr : (List.range n)[i]? with
            | none => rw [hr] at hi; cases hi
            | some m =>
              rw [hr] at hi
              have hm : m = i := by
                rw [List.getElem?_eq_some_iff] at hr
                obtain ⟨q, hq⟩ := hr
                simp at hq; exact hq.symm
              subst hm
              simp only [Option.map_some, Option.some.injEq] at hi
              subst hi
              dsimp only at ht ⊢
              rw [hte] at ht; cases ht; rfl) (parts.toList.map fun p => (p.1, ev st.s p.2)) (parts.toList.map fun p => (p.1, a.eval p.2)) zc zs xs (by simp) (fun k k1 k2 => by
                simp only [List.getElem_map]
                exact ⟨trivial, ev_sound h _⟩) hzx hb
          refine ⟨.agg cells', fun w' => ?_, ⟨cells', rfl, f2⟩⟩
          have hb : (Instr.build t (parts.map fun p => (p.1, a.eval p.2))).run P w' = .ok (.agg cells') w' := run_build w' t _ cells' (by
            simp only [Program.built, h2, ha, h5, g2, hzv, Value.cells, g3]
            simpa using f1)
          simp [execOp, hb]
        · cases hp
      · cases hp
    · cases hp
  · cases hp
end Go.Proofs.Ytdmdcmhgfgookaa.A
