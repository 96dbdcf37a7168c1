/- What the laws of this seat need, part 7. -/
import Derived.Test.YtgimfjmigoibgaaMz6
/- The law GramBack. -/
set_option linter.unusedSimpArgs false
set_option linter.unusedVariables false
set_option maxRecDepth 100000
set_option maxHeartbeats 4000000
namespace Go.Proofs.Ytgimfjmigoibgaa.A
open Go
theorem ofL1_at {rs : List Rl} {i : Int} {k : Nat} (hk : k < rs.length) (hl : (rAt rs k).1 = i) : (ofL1 (rs.take k) i).length < (ofL1 rs i).length ∧ (ofL1 rs i)[(ofL1 (rs.take k) i).length]? = some (rAt rs k) := by
 have e : rs = rs.take k ++ rAt rs k :: rs.drop (k + 1) := by
  conv => lhs; rw [← List.take_append_drop k rs]
  rw [List.drop_eq_getElem_cons hk, rAt_get hk]
 have e2 : ofL1 rs i = ofL1 (rs.take k) i ++ rAt rs k :: ofL1 (rs.drop (k + 1)) i := by
  conv => lhs; rw [e, ofL1_app]
  congr 1
  unfold ofL1
  rw [List.filter_cons_of_pos (by simpa using hl)]
 rw [e2]
 refine ⟨by simp, ?_⟩
 rw [List.getElem?_append_right (Nat.le_refl _)]
 simp
theorem ofL1_take {rs : List Rl} {i : Int} {k : Nat} (hk : k < rs.length) : (ofL1 (rs.take (k + 1)) i).length = (ofL1 (rs.take k) i).length + if (rAt rs k).1 = i then 1 else 0 := by
 rw [List.take_succ_eq_append_getElem hk, ofL1_app, List.length_append, ← rAt_get hk]
 congr 1
 unfold ofL1
 by_cases h : (rAt rs k).1 = i
 ·rw [if_pos h, List.filter_cons_of_pos (by simpa using h)]; rfl
 ·rw [if_neg h, List.filter_cons_of_neg (by simpa using h)]; rfl
def bookGB (x_ordG : List ByteArray → List Rl → Bool) (x_lsN : List ByteArray → List ByteArray → List Rl → Nat) (x_lsC : List ByteArray → List ByteArray → List Rl → List C) (x_rsE : List Ln → Int) (x_grA : List Ln → List ByteArray) (x_grB : List Ln → List ByteArray) (x_grR : List Ln → List Rl) (x_rC : List Rl → List C) (x_nR : List Rl → Nat) (x_rlsOf : List C → List Rl) (x_fewG : List ByteArray → List ByteArray → List Rl → Int) (x_validG : List ByteArray → List ByteArray → List Rl → Bool) (x_sameGr : List ByteArray → List ByteArray → List Rl → List ByteArray → List ByteArray → List Rl → Bool) (x_sC : List ByteArray → List C) (x_nS : List ByteArray → Nat) (x_strsOf : List C → List ByteArray) (x_lnsOf : List C → List Ln) : Book := fun f xs => match f, xs with
 | 17, [.v true [.sl _ a, .sl _ b, .sl _ c]] => some (ret1 (.st (vI (x_fewG (x_strsOf a) (x_strsOf b) (x_rlsOf c)))))
 | 14, [] => some (ret1 (.st (vB true)))
 | 22, [.v true [.sl _ a, .sl _ b, .sl _ c]] => some (ret1 (.st (.sl (x_lsN (x_strsOf a) (x_strsOf b) (x_rlsOf c)) (x_lsC (x_strsOf a) (x_strsOf b) (x_rlsOf c)))))
 | 19, [.v true [.sl _ a, .sl _ b, .sl _ c]] => some (ret1 (.st (vB (x_validG (x_strsOf a) (x_strsOf b) (x_rlsOf c)))))
 | 23, [.v true [.sl _ _, .sl _ b, .sl _ c]] => some (ret1 (.st (vB (x_ordG (x_strsOf b) (x_rlsOf c)))))
 | 16, [.v false [.sl _ cs]] => some (rets [(true, [.st (.sl (x_nS (x_grA (x_lnsOf cs))) (x_sC (x_grA (x_lnsOf cs)))), .st (.sl (x_nS (x_grB (x_lnsOf cs))) (x_sC (x_grB (x_lnsOf cs)))), .st (.sl (x_nR (x_grR (x_lnsOf cs))) (x_rC (x_grR (x_lnsOf cs))))]), (false, [.st (vI (x_rsE (x_lnsOf cs)))])])
 | 21, [.v true [.sl _ a1, .sl _ b1, .sl _ c1], .v true [.sl _ a2, .sl _ b2, .sl _ c2]] => some (ret1 (.st (vB (x_sameGr (x_strsOf a1) (x_strsOf b1) (x_rlsOf c1) (x_strsOf a2) (x_strsOf b2) (x_rlsOf c2)))))
 | _, _ => none
theorem lnG_sz {ns ts : List ByteArray} {rs : List Rl} (hS : Sml ns ts rs) : rSz (lnG ns ts rs) 1000000 := by
 have h1 := hS.n; have h3 := hS.r
 rw [nS_eq] at h1; rw [nR_eq] at h3
 refine ⟨by rw [lnG_len]; exact h1, fun x hx => ?_⟩
 unfold lnG at hx
 obtain ⟨i, hi, rfl⟩ := List.mem_map.1 hx
 unfold lineG
 refine ⟨?_, fun a ha => ?_⟩
 ·rw [List.length_map]
  unfold ofL1
  have := List.length_filter_le (fun r : Rl => decide (r.1 = (i : Int))) rs
  omega
 ·obtain ⟨r, hr, rfl⟩ := List.mem_map.1 ha
  unfold altG
  rw [List.length_map, ← nI_eq]
  exact hS.i r (List.mem_filter.1 hr).1
set_option maxHeartbeats 40000000 in
theorem pc_GramBackL (ns ts : List ByteArray) (rs : List Rl) (h1 : nS ns < 4611686018427387904) (h2 : nS ts < 4611686018427387904) (h3 : nR rs < 2305843009213693952) (h4 : ∀ r ∈ rs, nI r.2 < 4611686018427387904) (h5 : ∀ s ∈ ns, s.size < 4611686018427387904) (h6 : ∀ s ∈ ts, s.size < 4611686018427387904) :
  PC Try.prog T 8 [.v true [(C.sl (nS ns) (sC ns)), (C.sl (nS ts) (sC ts)), (C.sl (nR rs) (rC rs))]] (ret1 (.st (vB true))) [] := by
 have x1 := strsOf_sC ns
 have x2 := strsOf_sC ts
 have x3 := rlsOf_rC rs
 have nn := nS_eq ns; have nt := nS_eq ts; have nr := nR_eq rs
 have c1 := c_FewG h1 h2 h3 h4 h5 h6
 have c2 : Sml ns ts rs → pc 22 [.v true [(C.sl (nS ns) (sC ns)), (C.sl (nS ts) (sC ts)), (C.sl (nR rs) (rC rs))]] (ret1 (.st (.sl (lsN (strsOf (sC ns)) (strsOf (sC ts)) (rlsOf (rC rs))) (lsC (strsOf (sC ns)) (strsOf (sC ts)) (rlsOf (rC rs)))))) := fun hS => by
  rw [x1, x2, x3]; exact ⟨enters Try.func22 (by kernel_rfl) (by kernel_rfl), pc_Lines ns ts rs hS⟩
 have c3 := fun hS : Sml ns ts rs => c_V14 hS
 have c4 : Sml ns ts rs → validG ns ts rs = true → pc 23 [.v true [(C.sl (nS ns) (sC ns)), (C.sl (nS ts) (sC ts)), (C.sl (nR rs) (rC rs))]] (ret1 (.st (vB (ordG (strsOf (sC ts)) (rlsOf (rC rs)))))) := fun hS hv => by
  rw [x2, x3]
  refine ⟨enters Try.func23 (by kernel_rfl) (by kernel_rfl), pc_ordered ns ts rs hS.n hS.t hS.r hS.i fun r hr x hx => ?_⟩
  obtain ⟨q1, q2⟩ := (fit_of hv r hr).2.2.2 x hx
  have g1 := hS.n; have g2 := hS.t
  omega
 have c5 : Sml ns ts rs → validG ns ts rs = true → pc 16 [.v false [.sl ns.length (ln3C (lnG ns ts rs))]] (rets [(true, [.st (.sl (nS (grA (lnsOf (ln3C (lnG ns ts rs))))) (sC (grA (lnsOf (ln3C (lnG ns ts rs)))))), .st (.sl (nS (grB (lnsOf (ln3C (lnG ns ts rs))))) (sC (grB (lnsOf (ln3C (lnG ns ts rs)))))), .st (.sl (nR (grR (lnsOf (ln3C (lnG ns ts rs))))) (rC (grR (lnsOf (ln3C (lnG ns ts rs))))))]), (false, [.st (vI (rsE (lnsOf (ln3C (lnG ns ts rs)))))])]) := fun hS hv => by
  rw [(LnRep.of3 (lnG ns ts rs)).read]
  have := pc_Resolve (lnG ns ts rs) _ (LnRep.of3 _) (lnG_sz hS)
  rw [lnG_len] at this
  exact ⟨enters Try.func16 (by kernel_rfl) (by kernel_rfl), this⟩
 have c6 : Sml ns ts rs → ∀ (a2 b2 : List ByteArray) (r2 : List Rl), a2 = ns → b2 = ts → r2 = rs → pc 21 [.v true [(C.sl (nS ns) (sC ns)), (C.sl (nS ts) (sC ts)), (C.sl (nR rs) (rC rs))], .v true [(C.sl (nS a2) (sC a2)), (C.sl (nS b2) (sC b2)), (C.sl (nR r2) (rC r2))]] (ret1 (.st (vB (sameGr (strsOf (sC ns)) (strsOf (sC ts)) (rlsOf (rC rs)) (strsOf (sC a2)) (strsOf (sC b2)) (rlsOf (rC r2)))))) := fun hS a2 b2 r2 e1 e2 e3 => by
  subst e1; subst e2; subst e3
  exact c_Sm14 hS.l hS.l
 have c7 : ∀ (a2 b2 : List ByteArray) (r2 : List Rl), a2 = ns → b2 = ts → r2 = rs → sameGr ns ts rs (strsOf (sC a2)) (strsOf (sC b2)) (rlsOf (rC r2)) = true := fun a2 b2 r2 e1 e2 e3 => by
  rw [strsOf_sC, strsOf_sC, rlsOf_rC]; exact sameGr_iff.2 ⟨e1.symm, e2.symm, e3.symm⟩
 have hsn : ∀ k, gs (cellAt (sC ns) k) = sAt ns k := fun k => gs_sC ns k
 have htn : ∀ k, gs (cellAt (sC ts) k) = sAt ts k := fun k => gs_sC ts k
 have hso : ∀ k, k < ns.length → okK .str (cellAt (sC ns) k) := fun k h => ok_sC h
 have hto : ∀ k, k < ts.length → okK .str (cellAt (sC ts) k) := fun k h => ok_sC h
 have hsl : (sC ns).length = nS ns := sC_len ns
 have htl : (sC ts).length = nS ts := sC_len ts
 have hrl : (rC rs).length = nR rs * 2 := rC_len rs
 have hr0 : ∀ k, gi (cellAt (rC rs) (k * 2)) = (rAt rs k).1 := fun k => gi_rC rs k
 have hr1 : ∀ k, gn (cellAt (rC rs) (k * 2 + 1)) = nI (rAt rs k).2 := fun k => gn_rC rs k
 have hr2 : ∀ k, gc (cellAt (rC rs) (k * 2 + 1)) = iC (rAt rs k).2 := fun k => gc_rC rs k
 have ho0 : ∀ k, k < rs.length → okK (.int .i64) (cellAt (rC rs) (k * 2)) := fun k h => ok_rC0 h
 have ho1 : ∀ k, k < rs.length → okK .sl (cellAt (rC rs) (k * 2 + 1)) := fun k h => ok_rC1 h
 generalize hA1 : nS ns = sn at *
 generalize hA2 : sC ns = sc at *
 generalize hA3 : nS ts = tn at *
 generalize hA4 : sC ts = tc at *
 generalize hA5 : nR rs = rn at *
 generalize hA6 : rC rs = rc at *
 refine pc_of tok Try.func8 rfl (by rfl) ?_
 obtain ⟨j, hj⟩ : ∃ j : J, j = std Try.prog T := ⟨_, rfl⟩
 have hm : Try.prog.follows .mixedOrders = true := by kernel_rfl
 generalize y_ordG : @ordG = x_ordG at *
 generalize y_lsN : @lsN = x_lsN at *
 generalize y_lsC : @lsC = x_lsC at *
 generalize y_rsE : @rsE = x_rsE at *
 generalize y_grA : @grA = x_grA at *
 generalize y_grB : @grB = x_grB at *
 generalize y_grR : @grR = x_grR at *
 generalize y_rC : @rC = x_rC at *
 generalize y_nR : @nR = x_nR at *
 generalize y_rlsOf : @rlsOf = x_rlsOf at *
 generalize y_fewG : @fewG = x_fewG at *
 generalize y_validG : @validG = x_validG at *
 generalize y_sameGr : @sameGr = x_sameGr at *
 generalize y_sC : @sC = x_sC at *
 generalize y_nS : @nS = x_nS at *
 generalize y_strsOf : @strsOf = x_strsOf at *
 generalize y_lnsOf : @lnsOf = x_lnsOf at *
 generalize y_al3C : @al3C = x_al3C at *
 generalize y_ln3C : @ln3C = x_ln3C at *
 generalize y_imS : @imS = x_imS at *
 generalize y_iC : @iC = x_iC at *
 generalize y_nI : @nI = x_nI at *
 generalize y_itC : @itC = x_itC at *
 (repeat' first | ((first | with_reducible refine tr_cut (fun h => ?_) (fun h => ?_) | refine aw_condj (by cbv) (fun h => ?_) (fun h => ?_)) <;> (try simp (disch := omega) only [hj, std, cmpI, cmpB, satB, Bool.not_eq_true, Bool.not_eq_false, decide_eq_true_eq, decide_eq_false_iff_not, beq_iff_eq, bne_iff_ne, bne_eq_false_iff_eq, beq_eq_false_iff_ne, ne_eq, reduceCtorEq, not_true_eq_false, not_false_eq_true, pl0, if_true, cmpS_eq, cmpS_neq, Bool.not_eq_eq_eq_not, Bool.not_true, Bool.not_false, Bool.not_eq_true', x1, x2, x3, add64, sub64] at h) <;> (try (exfalso; omega))) | (with_reducible refine tr_alt (fun h => ?_) ?_ <;> (try (exfalso; omega))) | (with_reducible first | refine tr_ob ?_ ?_ | refine tr_done ?_) | (refine aw_tr hj tok (bookGB x_ordG x_lsN x_lsC x_rsE x_grA x_grB x_grR x_rC x_nR x_rlsOf x_fewG x_validG x_sameGr x_sC x_nS x_strsOf x_lnsOf) (by cbv) ?_) | (refine aw_seq fun K hK => ?_) | (refine aw_tr1 hj tok (bookGB x_ordG x_lsN x_lsC x_rsE x_grA x_grB x_grR x_rC x_nR x_rlsOf x_fewG x_validG x_sameGr x_sC x_nS x_strsOf x_lnsOf) (by cbv) ?_) | (refine aw_skip ?_) | (refine aw_block ?_) | (refine aw_exit ?_) | (refine aw_ret ⟨.inr rfl, ret_okj hj (by cbv) ?_ ?_⟩) | (refine aw_ret ?_) | (with_reducible first | refine th_n ?_ | refine th_r ?_ | refine th_x ?_ | refine blk_n ?_ | refine blk_r ?_ | refine blk_x ?_ | refine blk_y rfl ?_) | (refine ⟨.inr rfl, ret_okj hj (by cbv) ?_ ?_⟩) | (refine ⟨.inl rfl, ret_okj hj (by cbv) ?_ ?_⟩) | (with_reducible first | refine ⟨(_, _, _), by cbv, ?_, ?_⟩ | refine ⟨(_, _), by cbv, ?_, ?_⟩ | refine ⟨_, by cbv, ?_, ?_⟩) | (with_reducible apply_assumption -symm -exfalso only [*]))
 all_goals ((try subst y_ordG); (try subst y_lsN); (try subst y_lsC); (try subst y_rsE); (try subst y_grA); (try subst y_grB); (try subst y_grR); (try subst y_rC); (try subst y_nR); (try subst y_rlsOf); (try subst y_fewG); (try subst y_validG); (try subst y_sameGr); (try subst y_sC); (try subst y_nS); (try subst y_strsOf); (try subst y_lnsOf); (try subst y_al3C); (try subst y_ln3C); (try subst y_imS); (try subst y_iC); (try subst y_nI); (try subst y_itC))
 all_goals (try have hS := smlF (by assumption : ¬ fewG ns ts rs = 0))
 all_goals (try (repeat' first | with_reducible exact obl0 | (with_reducible refine obl1 ?_ ?_)))
 all_goals (try first | with_reducible exact True.intro | ((first | refine ob_pc hj ?_ | refine ob_pcn hj ?_); (try rw [hj]); first | exact c1 | exact c_awake14 | exact c2 hS | exact c3 hS) | ((first | refine ob_le hj ?_ | refine ob_lei hj ?_ | refine ob_inb hj ?_ | refine ob_pos hj ?_ | refine ob_ne0 hj ?_ | refine ob_eqb hj ?_); (first | rfl | first | omega | (simp only [hj, std]; split <;> omega) | (simp (disch := omega) only [hj, std, cmpI, cmpB, satB, add64, sub64, ite0, pl0, pl2, pl3, sb0, if_true, if_false, eq_self] <;> omega) | (simp (disch := omega) [hj, std, cmpI, cmpB, satB, add64, sub64, ite0, pl0, pl2, pl3, sb0, if_true, if_false, eq_self] <;> omega))) | (exact rfl) | ((exfalso; have k := (ls_no (by assumption : validG ns ts rs = false)).1; omega)) | ((exfalso; have k := (ls_yes (by assumption : validG ns ts rs = true)).1; omega)))
 have hv : validG ns ts rs = true := by assumption
 have hfit := fit_of hv
 obtain ⟨w1, w2⟩ := ls_yes hv
 have u4 := c4 hS hv
 have u5 := c5 hS hv
 have u6 := c6 hS
 clear c4 c5 c6
 have b1 := hS.n; have b2 := hS.t; have b3 := hS.r
 have hb : ordG ts rs = true → ∀ lc, lc = ln3C (lnG ns ts rs) → rsE (lnsOf lc) = 0 ∧ grA (lnsOf lc) = ns ∧ grB (lnsOf lc) = ts ∧ grR (lnsOf lc) = rs := fun ho lc e => by
  rw [e, (LnRep.of3 _).read]; exact back_law hv ho
 clear c1 c2 c3 h1 h2 h3 h4 h5 h6
 refine aw_lpj hj [(1, .keep), (3, .keep), (4, .keep)] [1] (fun (⟨i, ln, lc⟩ : Int × Nat × (List C)) => stOf 186 [(1, .one (.ptr 1 0)), (3, .one (.c (.sl ln lc))), (4, .one (.c (vI i)))] [(1, .box [.st (.sl sn sc), .st (.sl tn tc), .st (.sl rn rc)])]) (fun (⟨i, ln, lc⟩ : Int × Nat × (List C)) => sn - i.toNat) (fun (⟨i, ln, lc⟩ : Int × Nat × (List C)) => 0 ≤ i ∧ i ≤ sn ∧ ln = ns.length ∧ lc = ln3C (lnG ns ts rs)) ((0, lsN (strsOf sc) (strsOf tc) (rlsOf rc), lsC (strsOf sc) (strsOf tc) (rlsOf rc))) (by generalize @ordG = x_ordG; generalize @lsN = x_lsN; generalize @lsC = x_lsC; generalize @rsE = x_rsE; generalize @grA = x_grA; generalize @grB = x_grB; generalize @grR = x_grR; generalize @rC = x_rC; generalize @nR = x_nR; generalize @rlsOf = x_rlsOf; generalize @fewG = x_fewG; generalize @validG = x_validG; generalize @sameGr = x_sameGr; generalize @sC = x_sC; generalize @nS = x_nS; generalize @strsOf = x_strsOf; generalize @lnsOf = x_lnsOf; generalize @al3C = x_al3C; generalize @ln3C = x_ln3C; generalize @imS = x_imS; generalize @iC = x_iC; generalize @nI = x_nI; generalize @itC = x_itC; cbv) ?_ (fun ⟨i, ln, lc⟩ hI => ?_)
 ·simp only [x1, x2, x3]
  exact ⟨by omega, by omega, w1, w2⟩
 obtain ⟨i1, i2, hln, hlc⟩ := hI
 clear w1 w2
 have hlcl : lc.length = ln * 2 := by rw [hlc, ln3C_len, lnG_len, hln]
 rcases Decidable.em (i < (sn : Int)) with hi | hi
 ·have hiN : i.toNat < ns.length := by omega
  obtain ⟨d1, d2⟩ := at_ln3 (L := lnG ns ts rs) (i := i.toNat) (by rw [lnG_len]; exact hiN)
  rw [lAt_lnG hiN, ← hlc] at d1 d2
  have hAl : (lineG ns ts rs i.toNat).2 = altsG ns ts rs i.toNat := rfl
  have hA0 : (lineG ns ts rs i.toNat).1 = sAt ns i.toNat := rfl
  rw [hAl] at d2; rw [hA0] at d1
  have od0 : okK .str (cellAt lc (i.toNat * 2)) := by rw [d1]; exact ⟨_, rfl⟩
  have od1 : okK .sl (cellAt lc (i.toNat * 2 + 1)) := by rw [d2]; exact .inr ⟨_, _, rfl⟩
  have f1 : gs (cellAt lc (i.toNat * 2)) = sAt ns i.toNat := by rw [d1]; rfl
  have f2 : gn (cellAt lc (i.toNat * 2 + 1)) = (altsG ns ts rs i.toNat).length := by rw [d2]; rfl
  have f3 : gc (cellAt lc (i.toNat * 2 + 1)) = al3C (altsG ns ts rs i.toNat) := by rw [d2]; rfl
  have f4 := hsn i.toNat
  have eI : ((i.toNat : Nat) : Int) = i := by omega
  have hAn : (altsG ns ts rs i.toNat).length = (ofL1 rs i).length := by unfold altsG; rw [List.length_map, eI]
  have hAt : ∀ n : Nat, ∀ r : Rl, (ofL1 rs i)[n]? = some r → aAt (altsG ns ts rs i.toNat) n = altG ns ts r := fun n r h => by
   unfold altsG; rw [eI, aAt, List.getD_eq_getElem?_getD, List.getElem?_map, h]; rfl
  generalize altsG ns ts rs i.toNat = A at *
  have f5 : (gc (cellAt lc (i.toNat * 2 + 1))).length = A.length := by rw [f3]; exact al3C_len A
  clear d1 d2 hAl hA0
  generalize y_ordG : @ordG = x_ordG at *
  generalize y_lsN : @lsN = x_lsN at *
  generalize y_lsC : @lsC = x_lsC at *
  generalize y_rsE : @rsE = x_rsE at *
  generalize y_grA : @grA = x_grA at *
  generalize y_grB : @grB = x_grB at *
  generalize y_grR : @grR = x_grR at *
  generalize y_rC : @rC = x_rC at *
  generalize y_nR : @nR = x_nR at *
  generalize y_rlsOf : @rlsOf = x_rlsOf at *
  generalize y_fewG : @fewG = x_fewG at *
  generalize y_validG : @validG = x_validG at *
  generalize y_sameGr : @sameGr = x_sameGr at *
  generalize y_sC : @sC = x_sC at *
  generalize y_nS : @nS = x_nS at *
  generalize y_strsOf : @strsOf = x_strsOf at *
  generalize y_lnsOf : @lnsOf = x_lnsOf at *
  generalize y_al3C : @al3C = x_al3C at *
  generalize y_ln3C : @ln3C = x_ln3C at *
  generalize y_imS : @imS = x_imS at *
  generalize y_iC : @iC = x_iC at *
  generalize y_nI : @nI = x_nI at *
  generalize y_itC : @itC = x_itC at *
  (repeat' first | ((first | with_reducible refine tr_cut (fun h => ?_) (fun h => ?_) | refine aw_condj (by cbv) (fun h => ?_) (fun h => ?_)) <;> (try simp (disch := omega) only [hj, std, cmpI, cmpB, satB, Bool.not_eq_true, Bool.not_eq_false, decide_eq_true_eq, decide_eq_false_iff_not, beq_iff_eq, bne_iff_ne, bne_eq_false_iff_eq, beq_eq_false_iff_ne, ne_eq, reduceCtorEq, not_true_eq_false, not_false_eq_true, pl0, if_true, cmpS_eq, cmpS_neq, Bool.not_eq_eq_eq_not, Bool.not_true, Bool.not_false, Bool.not_eq_true', f1, f4, x1, x2, x3, add64, sub64] at h) <;> (try (exfalso; omega))) | (with_reducible refine tr_alt (fun h => ?_) ?_ <;> (try (exfalso; omega))) | (with_reducible first | refine tr_ob ?_ ?_ | refine tr_done ?_) | (refine aw_dr1 (id := 11) hj tok hm (bookGB x_ordG x_lsN x_lsC x_rsE x_grA x_grB x_grR x_rC x_nR x_rlsOf x_fewG x_validG x_sameGr x_sC x_nS x_strsOf x_lnsOf) true [(0, false), (1, false), (2, false), (3, false), (4, false), (5, false), (6, false), (7, true), (8, true), (9, true), (10, true)] (by kernel_rfl) (by cbv) ?_) | (refine aw_dr (id := 11) hj tok hm (bookGB x_ordG x_lsN x_lsC x_rsE x_grA x_grB x_grR x_rC x_nR x_rlsOf x_fewG x_validG x_sameGr x_sC x_nS x_strsOf x_lnsOf) true [(0, false), (1, false), (2, false), (3, false), (4, false), (5, false), (6, false), (7, true), (8, true), (9, true), (10, true)] (by kernel_rfl) (by cbv) ?_) | (refine aw_tr hj tok (bookGB x_ordG x_lsN x_lsC x_rsE x_grA x_grB x_grR x_rC x_nR x_rlsOf x_fewG x_validG x_sameGr x_sC x_nS x_strsOf x_lnsOf) (by cbv) ?_) | (refine aw_seq fun K hK => ?_) | (refine aw_tr1 hj tok (bookGB x_ordG x_lsN x_lsC x_rsE x_grA x_grB x_grR x_rC x_nR x_rlsOf x_fewG x_validG x_sameGr x_sC x_nS x_strsOf x_lnsOf) (by cbv) ?_) | (refine aw_skip ?_) | (refine aw_block ?_) | (refine aw_exit ?_) | (refine aw_ret ⟨.inr rfl, ret_okj hj (by cbv) ?_ ?_⟩) | (refine aw_ret ?_) | (with_reducible first | refine th_n ?_ | refine th_r ?_ | refine th_x ?_ | refine blk_n ?_ | refine blk_r ?_ | refine blk_x ?_ | refine blk_y rfl ?_) | (refine ⟨.inr rfl, ret_okj hj (by cbv) ?_ ?_⟩) | (refine ⟨.inl rfl, ret_okj hj (by cbv) ?_ ?_⟩) | (with_reducible first | refine ⟨(_, _, _), by cbv, ?_, ?_⟩ | refine ⟨(_, _), by cbv, ?_, ?_⟩ | refine ⟨_, by cbv, ?_, ?_⟩) | (with_reducible apply_assumption -symm -exfalso only [*]))
  all_goals ((try subst y_ordG); (try subst y_lsN); (try subst y_lsC); (try subst y_rsE); (try subst y_grA); (try subst y_grB); (try subst y_grR); (try subst y_rC); (try subst y_nR); (try subst y_rlsOf); (try subst y_fewG); (try subst y_validG); (try subst y_sameGr); (try subst y_sC); (try subst y_nS); (try subst y_strsOf); (try subst y_lnsOf); (try subst y_al3C); (try subst y_ln3C); (try subst y_imS); (try subst y_iC); (try subst y_nI); (try subst y_itC))
  all_goals (try (repeat' first | with_reducible exact obl0 | (with_reducible refine obl1 ?_ ?_)))
  all_goals (try first | with_reducible exact True.intro | ((first | refine ob_le hj ?_ | refine ob_lei hj ?_ | refine ob_inb hj ?_ | refine ob_pos hj ?_ | refine ob_ne0 hj ?_ | refine ob_eqb hj ?_); (first | rfl | first | omega | (simp only [hj, std]; split <;> omega) | (simp (disch := omega) only [hj, std, cmpI, cmpB, satB, add64, sub64, ite0, pl0, pl2, pl3, sb0, if_true, if_false, eq_self, hlcl, hsl] <;> omega) | (simp (disch := omega) [hj, std, cmpI, cmpB, satB, add64, sub64, ite0, pl0, pl2, pl3, sb0, if_true, if_false, eq_self, hlcl, hsl] <;> omega))) | ((refine ob_ok hj ?_; simp only [hj, std, ite0]; first | exact od0 | exact hso _ hiN)))
  refine aw_lpj hj [(1, .keep), (3, .keep), (4, .keep), (5, .keep), (6, .keep)] [1] (fun (⟨k, n⟩ : Int × Int) => stOf 186 [(1, .one (.ptr 1 0)), (3, .one (.c (.sl ln lc))), (4, .one (.c (vI i))), (5, .one (.c (vI n))), (6, .one (.c (vI k)))] [(1, .box [.st (.sl sn sc), .st (.sl tn tc), .st (.sl rn rc)])]) (fun (⟨k, n⟩ : Int × Int) => rn - k.toNat) (fun (⟨k, n⟩ : Int × Int) => 0 ≤ k ∧ k ≤ rn ∧ 0 ≤ n ∧ n ≤ k ∧ n.toNat = (ofL1 (rs.take k.toNat) i).length) ((0, 0)) (by generalize @ordG = x_ordG; generalize @lsN = x_lsN; generalize @lsC = x_lsC; generalize @rsE = x_rsE; generalize @grA = x_grA; generalize @grB = x_grB; generalize @grR = x_grR; generalize @rC = x_rC; generalize @nR = x_nR; generalize @rlsOf = x_rlsOf; generalize @fewG = x_fewG; generalize @validG = x_validG; generalize @sameGr = x_sameGr; generalize @sC = x_sC; generalize @nS = x_nS; generalize @strsOf = x_strsOf; generalize @lnsOf = x_lnsOf; generalize @al3C = x_al3C; generalize @ln3C = x_ln3C; generalize @imS = x_imS; generalize @iC = x_iC; generalize @nI = x_nI; generalize @itC = x_itC; cbv) ?_ (fun ⟨k, n⟩ hI => ?_)
  ·exact ⟨by omega, by omega, by omega, by omega, rfl⟩
  obtain ⟨k1, k2, n1, n2, hn⟩ := hI
  rcases Decidable.em (k < (rn : Int)) with hk | hk
  ·have e0 := hr0 k.toNat
   have e1 := hr1 k.toNat
   have e2 := hr2 k.toNat
   have o0 := ho0 k.toNat (by omega)
   have o1 := ho1 k.toNat (by omega)
   have hT := ofL1_take (rs := rs) (i := i) (k := k.toNat) (by omega)
   have kz : (k + 1).toNat = k.toNat + 1 := by omega
   have hRm := rAt_mem rs k k1 (by rw [nR_eq]; omega)
   have hRf := (hfit _ hRm).2.2.2
   have hRl := (hfit _ hRm).2.2.1
   have hLat := ofL1_at (rs := rs) (i := i) (k := k.toNat) (by omega)
   generalize rAt rs k.toNat = R at *
   rcases Decidable.em (R.1 = i) with hRi | hRi
   ·rw [if_pos hRi] at hT
    obtain ⟨g1, g2⟩ := hLat hRi
    rw [← hn] at g1 g2
    have hAa := hAt _ _ g2
    have d8 := at_al3 (A := A) (i := n.toNat) (by omega)
    rw [hAa, ← f3] at d8
    have hal : (altG ns ts R).length = R.2.length := by unfold altG; rw [List.length_map]
    have f6 : gn (cellAt (gc (cellAt lc (i.toNat * 2 + 1))) n.toNat) = nI R.2 := by rw [d8, nI_eq, ← hal]; rfl
    have f7 : gc (cellAt (gc (cellAt lc (i.toNat * 2 + 1))) n.toNat) = itC (altG ns ts R) := by rw [d8]; rfl
    have o2 : okK .sl (cellAt (gc (cellAt lc (i.toNat * 2 + 1))) n.toNat) := by rw [d8]; exact .inr ⟨_, _, rfl⟩
    have f8 : (gc (cellAt (gc (cellAt lc (i.toNat * 2 + 1))) n.toNat)).length = nI R.2 * 2 := by rw [f7, itC_len, hal, nI_eq]
    clear d8
    generalize y_ordG : @ordG = x_ordG at *
    generalize y_lsN : @lsN = x_lsN at *
    generalize y_lsC : @lsC = x_lsC at *
    generalize y_rsE : @rsE = x_rsE at *
    generalize y_grA : @grA = x_grA at *
    generalize y_grB : @grB = x_grB at *
    generalize y_grR : @grR = x_grR at *
    generalize y_rC : @rC = x_rC at *
    generalize y_nR : @nR = x_nR at *
    generalize y_rlsOf : @rlsOf = x_rlsOf at *
    generalize y_fewG : @fewG = x_fewG at *
    generalize y_validG : @validG = x_validG at *
    generalize y_sameGr : @sameGr = x_sameGr at *
    generalize y_sC : @sC = x_sC at *
    generalize y_nS : @nS = x_nS at *
    generalize y_strsOf : @strsOf = x_strsOf at *
    generalize y_lnsOf : @lnsOf = x_lnsOf at *
    generalize y_al3C : @al3C = x_al3C at *
    generalize y_ln3C : @ln3C = x_ln3C at *
    generalize y_imS : @imS = x_imS at *
    generalize y_iC : @iC = x_iC at *
    generalize y_nI : @nI = x_nI at *
    generalize y_itC : @itC = x_itC at *
    (repeat' first | ((first | with_reducible refine tr_cut (fun h => ?_) (fun h => ?_) | refine aw_condj (by cbv) (fun h => ?_) (fun h => ?_)) <;> (try simp (disch := omega) only [hj, std, cmpI, cmpB, satB, Bool.not_eq_true, Bool.not_eq_false, decide_eq_true_eq, decide_eq_false_iff_not, beq_iff_eq, bne_iff_ne, bne_eq_false_iff_eq, beq_eq_false_iff_ne, ne_eq, reduceCtorEq, not_true_eq_false, not_false_eq_true, pl0, if_true, cmpS_eq, cmpS_neq, Bool.not_eq_eq_eq_not, Bool.not_true, Bool.not_false, Bool.not_eq_true', ite0, e0, e1, f2, f6, x1, x2, x3, add64, sub64] at h) <;> (try (exfalso; omega))) | (with_reducible refine tr_alt (fun h => ?_) ?_ <;> (try (exfalso; omega))) | (with_reducible first | refine tr_ob ?_ ?_ | refine tr_done ?_) | (refine aw_dr1 (id := 18) hj tok hm (bookGB x_ordG x_lsN x_lsC x_rsE x_grA x_grB x_grR x_rC x_nR x_rlsOf x_fewG x_validG x_sameGr x_sC x_nS x_strsOf x_lnsOf) true [(0, false), (1, false), (2, true), (3, true), (4, true), (5, true), (6, true), (7, true), (8, true), (9, false), (10, false), (11, false), (12, false), (13, false), (14, false), (15, false), (16, false), (17, false), (18, false), (19, false), (20, true), (21, true), (22, true), (23, true), (24, true), (25, true), (26, true)] (by kernel_rfl) (by cbv) ?_) | (refine aw_dr (id := 18) hj tok hm (bookGB x_ordG x_lsN x_lsC x_rsE x_grA x_grB x_grR x_rC x_nR x_rlsOf x_fewG x_validG x_sameGr x_sC x_nS x_strsOf x_lnsOf) true [(0, false), (1, false), (2, true), (3, true), (4, true), (5, true), (6, true), (7, true), (8, true), (9, false), (10, false), (11, false), (12, false), (13, false), (14, false), (15, false), (16, false), (17, false), (18, false), (19, false), (20, true), (21, true), (22, true), (23, true), (24, true), (25, true), (26, true)] (by kernel_rfl) (by cbv) ?_) | (refine aw_tr hj tok (bookGB x_ordG x_lsN x_lsC x_rsE x_grA x_grB x_grR x_rC x_nR x_rlsOf x_fewG x_validG x_sameGr x_sC x_nS x_strsOf x_lnsOf) (by cbv) ?_) | (refine aw_seq fun K hK => ?_) | (refine aw_tr1 hj tok (bookGB x_ordG x_lsN x_lsC x_rsE x_grA x_grB x_grR x_rC x_nR x_rlsOf x_fewG x_validG x_sameGr x_sC x_nS x_strsOf x_lnsOf) (by cbv) ?_) | (refine aw_skip ?_) | (refine aw_block ?_) | (refine aw_exit ?_) | (refine aw_ret ⟨.inr rfl, ret_okj hj (by cbv) ?_ ?_⟩) | (refine aw_ret ?_) | (with_reducible first | refine th_n ?_ | refine th_r ?_ | refine th_x ?_ | refine blk_n ?_ | refine blk_r ?_ | refine blk_x ?_ | refine blk_y rfl ?_) | (refine ⟨.inr rfl, ret_okj hj (by cbv) ?_ ?_⟩) | (refine ⟨.inl rfl, ret_okj hj (by cbv) ?_ ?_⟩) | (with_reducible first | refine ⟨(_, _, _), by cbv, ?_, ?_⟩ | refine ⟨(_, _), by cbv, ?_, ?_⟩ | refine ⟨_, by cbv, ?_, ?_⟩) | (with_reducible apply_assumption -symm -exfalso only [*]))
    all_goals ((try subst y_ordG); (try subst y_lsN); (try subst y_lsC); (try subst y_rsE); (try subst y_grA); (try subst y_grB); (try subst y_grR); (try subst y_rC); (try subst y_nR); (try subst y_rlsOf); (try subst y_fewG); (try subst y_validG); (try subst y_sameGr); (try subst y_sC); (try subst y_nS); (try subst y_strsOf); (try subst y_lnsOf); (try subst y_al3C); (try subst y_ln3C); (try subst y_imS); (try subst y_iC); (try subst y_nI); (try subst y_itC))
    all_goals (try (repeat' first | with_reducible exact obl0 | (with_reducible refine obl1 ?_ ?_)))
    all_goals (try first | with_reducible exact True.intro | ((first | refine ob_le hj ?_ | refine ob_lei hj ?_ | refine ob_inb hj ?_ | refine ob_pos hj ?_ | refine ob_ne0 hj ?_ | refine ob_eqb hj ?_); (first | rfl | first | omega | (simp only [hj, std]; split <;> omega) | (simp (disch := omega) only [hj, std, cmpI, cmpB, satB, add64, sub64, ite0, pl0, pl2, pl3, sb0, if_true, if_false, eq_self, hlcl, hrl, f5, f2] <;> omega) | (simp (disch := omega) [hj, std, cmpI, cmpB, satB, add64, sub64, ite0, pl0, pl2, pl3, sb0, if_true, if_false, eq_self, hlcl, hrl, f5, f2] <;> omega))) | ((refine ob_ok hj ?_; simp only [hj, std, ite0]; first | exact od1 | exact o0 | exact o1 | exact o2)))
    refine aw_lpj hj [(1, .keep), (3, .keep), (4, .keep), (5, .keep), (6, .keep), (7, .keep)] [1] (fun (q : Int) => stOf 186 [(1, .one (.ptr 1 0)), (3, .one (.c (.sl ln lc))), (4, .one (.c (vI i))), (5, .one (.c (vI n))), (6, .one (.c (vI k))), (7, .one (.c (vI q)))] [(1, .box [.st (.sl sn sc), .st (.sl tn tc), .st (.sl rn rc)])]) (fun (q : Int) => nI R.2 - q.toNat) (fun (q : Int) => 0 ≤ q ∧ q ≤ nI R.2) (0) (by generalize @ordG = x_ordG; generalize @lsN = x_lsN; generalize @lsC = x_lsC; generalize @rsE = x_rsE; generalize @grA = x_grA; generalize @grB = x_grB; generalize @grR = x_grR; generalize @rC = x_rC; generalize @nR = x_nR; generalize @rlsOf = x_rlsOf; generalize @fewG = x_fewG; generalize @validG = x_validG; generalize @sameGr = x_sameGr; generalize @sC = x_sC; generalize @nS = x_nS; generalize @strsOf = x_strsOf; generalize @lnsOf = x_lnsOf; generalize @al3C = x_al3C; generalize @ln3C = x_ln3C; generalize @imS = x_imS; generalize @iC = x_iC; generalize @nI = x_nI; generalize @itC = x_itC; cbv) ?_ (fun q hI => ?_)
    ·exact ⟨by omega, by omega⟩
    obtain ⟨q1, q2⟩ := hI
    have nRr := nI_eq R.2
    rcases Decidable.em (q < (nI R.2 : Int)) with hq | hq
    ·have e4 : gi (cellAt (gc (cellAt rc (k.toNat * 2 + 1))) q.toNat) = iAt R.2 q.toNat := by rw [e2]; exact gi_iC _ _
     have e5 : (gc (cellAt rc (k.toNat * 2 + 1))).length = nI R.2 := by rw [e2]; exact iC_len _
     have o4 : okK (.int .i64) (cellAt (gc (cellAt rc (k.toNat * 2 + 1))) q.toNat) := by rw [e2]; exact ok_iC (by omega)
     obtain ⟨s1, s2⟩ := hRf (iAt R.2 q.toNat) (iAt_mem _ q q1 hq)
     obtain ⟨t1, t2⟩ := at_itC (a := altG ns ts R) (i := q.toNat) (by omega)
     rw [altG_at (by omega), ← f7] at t1 t2
     generalize iAt R.2 q.toNat = s at *
     have f9 : gb (cellAt (gc (cellAt (gc (cellAt lc (i.toNat * 2 + 1))) n.toNat)) (q.toNat * 2)) = decide (s < 0) := by rw [t1]; rfl
     have f10 : gs (cellAt (gc (cellAt (gc (cellAt lc (i.toNat * 2 + 1))) n.toNat)) (q.toNat * 2 + 1)) = imS ns ts s := by rw [t2]; rfl
     have o5 : okK .bool (cellAt (gc (cellAt (gc (cellAt lc (i.toNat * 2 + 1))) n.toNat)) (q.toNat * 2)) := by rw [t1]; exact ⟨_, rfl⟩
     have o6 : okK .str (cellAt (gc (cellAt (gc (cellAt lc (i.toNat * 2 + 1))) n.toNat)) (q.toNat * 2 + 1)) := by rw [t2]; exact ⟨_, rfl⟩
     have hso' := hso s.toNat
     have hto' := hto (-1 - s).toNat
     have hsn' := hsn s.toNat
     have htn' := htn (-1 - s).toNat
     clear t1 t2 hb u4 u5 u6 c7 hfit hAt hRf hso hto hsn htn hr0 hr1 hr2 ho0 ho1 hT hLat e2 f1 f3 f4 f7 hn hAn hal hAa g1 g2 hRm hS hv hlc x1 x2 x3 hA2 hA4 hA6
     rcases Decidable.em (s < 0) with hs0 | hs0
     ·as_aux_lemma =>
      have es : arithI .sub .i64 (-1) s = -1 - s := sub64 (by omega) (by omega)
      have g3 : gs (cellAt tc (-1 - s).toNat) = imS ns ts s := by rw [htn']; unfold imS itG; rw [if_pos hs0]
      have o7 : okK .str (cellAt tc (-1 - s).toNat) := hto' (by omega)
      clear hso' hto' hsn' htn'
      generalize y_ordG : @ordG = x_ordG at *
      generalize y_lsN : @lsN = x_lsN at *
      generalize y_lsC : @lsC = x_lsC at *
      generalize y_rsE : @rsE = x_rsE at *
      generalize y_grA : @grA = x_grA at *
      generalize y_grB : @grB = x_grB at *
      generalize y_grR : @grR = x_grR at *
      generalize y_rC : @rC = x_rC at *
      generalize y_nR : @nR = x_nR at *
      generalize y_rlsOf : @rlsOf = x_rlsOf at *
      generalize y_fewG : @fewG = x_fewG at *
      generalize y_validG : @validG = x_validG at *
      generalize y_sameGr : @sameGr = x_sameGr at *
      generalize y_sC : @sC = x_sC at *
      generalize y_nS : @nS = x_nS at *
      generalize y_strsOf : @strsOf = x_strsOf at *
      generalize y_lnsOf : @lnsOf = x_lnsOf at *
      generalize y_al3C : @al3C = x_al3C at *
      generalize y_ln3C : @ln3C = x_ln3C at *
      generalize y_imS : @imS = x_imS at *
      generalize y_iC : @iC = x_iC at *
      generalize y_nI : @nI = x_nI at *
      generalize y_itC : @itC = x_itC at *
      (repeat' first | ((first | with_reducible refine tr_cut (fun h => ?_) (fun h => ?_) | refine aw_condj (by cbv) (fun h => ?_) (fun h => ?_)) <;> (try simp (disch := omega) only [hj, std, cmpI, cmpB, satB, Bool.not_eq_true, Bool.not_eq_false, decide_eq_true_eq, decide_eq_false_iff_not, beq_iff_eq, bne_iff_ne, bne_eq_false_iff_eq, beq_eq_false_iff_ne, ne_eq, reduceCtorEq, not_true_eq_false, not_false_eq_true, pl0, if_true, cmpS_eq, cmpS_neq, Bool.not_eq_eq_eq_not, Bool.not_true, Bool.not_false, Bool.not_eq_true', ite0, e4, f9, f10, es, g3, add64, sub64] at h) <;> (try (exfalso; omega))) | (with_reducible refine tr_alt (fun h => ?_) ?_ <;> (try (exfalso; omega))) | (with_reducible first | refine tr_ob ?_ ?_ | refine tr_done ?_) | (refine aw_dr1 (id := 25) hj tok hm (bookGB x_ordG x_lsN x_lsC x_rsE x_grA x_grB x_grR x_rC x_nR x_rlsOf x_fewG x_validG x_sameGr x_sC x_nS x_strsOf x_lnsOf) true [(0, false), (1, false), (2, true), (3, true), (4, true), (5, true), (6, true), (7, true), (8, true), (9, false), (10, false), (11, false), (12, false), (13, true), (14, true), (15, true), (16, true), (17, true), (18, true), (19, true), (20, true), (21, true), (22, true), (23, true), (24, false), (25, false), (26, false), (27, false), (28, true), (29, true), (30, true), (31, true), (32, true), (33, true)] (by kernel_rfl) (by cbv) ?_) | (refine aw_dr (id := 25) hj tok hm (bookGB x_ordG x_lsN x_lsC x_rsE x_grA x_grB x_grR x_rC x_nR x_rlsOf x_fewG x_validG x_sameGr x_sC x_nS x_strsOf x_lnsOf) true [(0, false), (1, false), (2, true), (3, true), (4, true), (5, true), (6, true), (7, true), (8, true), (9, false), (10, false), (11, false), (12, false), (13, true), (14, true), (15, true), (16, true), (17, true), (18, true), (19, true), (20, true), (21, true), (22, true), (23, true), (24, false), (25, false), (26, false), (27, false), (28, true), (29, true), (30, true), (31, true), (32, true), (33, true)] (by kernel_rfl) (by cbv) ?_) | (refine aw_tr hj tok (bookGB x_ordG x_lsN x_lsC x_rsE x_grA x_grB x_grR x_rC x_nR x_rlsOf x_fewG x_validG x_sameGr x_sC x_nS x_strsOf x_lnsOf) (by cbv) ?_) | (refine aw_seq fun K hK => ?_) | (refine aw_tr1 hj tok (bookGB x_ordG x_lsN x_lsC x_rsE x_grA x_grB x_grR x_rC x_nR x_rlsOf x_fewG x_validG x_sameGr x_sC x_nS x_strsOf x_lnsOf) (by cbv) ?_) | (refine aw_skip ?_) | (refine aw_block ?_) | (refine aw_exit ?_) | (refine aw_ret ⟨.inr rfl, ret_okj hj (by cbv) ?_ ?_⟩) | (refine aw_ret ?_) | (with_reducible first | refine th_n ?_ | refine th_r ?_ | refine th_x ?_ | refine blk_n ?_ | refine blk_r ?_ | refine blk_x ?_ | refine blk_y rfl ?_) | (refine ⟨.inr rfl, ret_okj hj (by cbv) ?_ ?_⟩) | (refine ⟨.inl rfl, ret_okj hj (by cbv) ?_ ?_⟩) | (with_reducible first | refine ⟨(_, _, _), by cbv, ?_, ?_⟩ | refine ⟨(_, _), by cbv, ?_, ?_⟩ | refine ⟨_, by cbv, ?_, ?_⟩) | (with_reducible apply_assumption -symm -exfalso only [*]))
      all_goals ((try subst y_ordG); (try subst y_lsN); (try subst y_lsC); (try subst y_rsE); (try subst y_grA); (try subst y_grB); (try subst y_grR); (try subst y_rC); (try subst y_nR); (try subst y_rlsOf); (try subst y_fewG); (try subst y_validG); (try subst y_sameGr); (try subst y_sC); (try subst y_nS); (try subst y_strsOf); (try subst y_lnsOf); (try subst y_al3C); (try subst y_ln3C); (try subst y_imS); (try subst y_iC); (try subst y_nI); (try subst y_itC))
      all_goals (try (repeat' first | with_reducible exact obl0 | (with_reducible refine obl1 ?_ ?_)))
      all_goals (try first | with_reducible exact True.intro | ((first | refine ob_le hj ?_ | refine ob_lei hj ?_ | refine ob_inb hj ?_ | refine ob_pos hj ?_ | refine ob_ne0 hj ?_ | refine ob_eqb hj ?_); (first | rfl | first | omega | (simp only [hj, std]; split <;> omega) | (simp (disch := omega) only [hj, std, cmpI, cmpB, satB, add64, sub64, ite0, pl0, pl2, pl3, sb0, if_true, if_false, eq_self, hlcl, hrl, hsl, htl, e4, e5, f5, f2, f6, f8, e1, es] <;> omega) | (simp (disch := omega) [hj, std, cmpI, cmpB, satB, add64, sub64, ite0, pl0, pl2, pl3, sb0, if_true, if_false, eq_self, hlcl, hrl, hsl, htl, e4, e5, f5, f2, f6, f8, e1, es] <;> omega))) | ((refine ob_ok hj ?_; simp only [hj, std, ite0, e4, es]; first | exact od1 | exact o0 | exact o1 | exact o2 | exact o4 | exact o5 | exact o6 | exact o7)) | ((simp (disch := omega) only [hj, std, add64, ite0]; first | omega | exact ⟨by omega, by omega⟩)))
     ·as_aux_lemma =>
      have g4 : gs (cellAt sc s.toNat) = imS ns ts s := by rw [hsn']; unfold imS itG; rw [if_neg hs0]
      have o7 : okK .str (cellAt sc s.toNat) := hso' (by omega)
      clear hso' hto' hsn' htn'
      generalize y_ordG : @ordG = x_ordG at *
      generalize y_lsN : @lsN = x_lsN at *
      generalize y_lsC : @lsC = x_lsC at *
      generalize y_rsE : @rsE = x_rsE at *
      generalize y_grA : @grA = x_grA at *
      generalize y_grB : @grB = x_grB at *
      generalize y_grR : @grR = x_grR at *
      generalize y_rC : @rC = x_rC at *
      generalize y_nR : @nR = x_nR at *
      generalize y_rlsOf : @rlsOf = x_rlsOf at *
      generalize y_fewG : @fewG = x_fewG at *
      generalize y_validG : @validG = x_validG at *
      generalize y_sameGr : @sameGr = x_sameGr at *
      generalize y_sC : @sC = x_sC at *
      generalize y_nS : @nS = x_nS at *
      generalize y_strsOf : @strsOf = x_strsOf at *
      generalize y_lnsOf : @lnsOf = x_lnsOf at *
      generalize y_al3C : @al3C = x_al3C at *
      generalize y_ln3C : @ln3C = x_ln3C at *
      generalize y_imS : @imS = x_imS at *
      generalize y_iC : @iC = x_iC at *
      generalize y_nI : @nI = x_nI at *
      generalize y_itC : @itC = x_itC at *
      (repeat' first | ((first | with_reducible refine tr_cut (fun h => ?_) (fun h => ?_) | refine aw_condj (by cbv) (fun h => ?_) (fun h => ?_)) <;> (try simp (disch := omega) only [hj, std, cmpI, cmpB, satB, Bool.not_eq_true, Bool.not_eq_false, decide_eq_true_eq, decide_eq_false_iff_not, beq_iff_eq, bne_iff_ne, bne_eq_false_iff_eq, beq_eq_false_iff_ne, ne_eq, reduceCtorEq, not_true_eq_false, not_false_eq_true, pl0, if_true, cmpS_eq, cmpS_neq, Bool.not_eq_eq_eq_not, Bool.not_true, Bool.not_false, Bool.not_eq_true', ite0, e4, f9, f10, g4, add64, sub64] at h) <;> (try (exfalso; omega))) | (with_reducible refine tr_alt (fun h => ?_) ?_ <;> (try (exfalso; omega))) | (with_reducible first | refine tr_ob ?_ ?_ | refine tr_done ?_) | (refine aw_dr1 (id := 25) hj tok hm (bookGB x_ordG x_lsN x_lsC x_rsE x_grA x_grB x_grR x_rC x_nR x_rlsOf x_fewG x_validG x_sameGr x_sC x_nS x_strsOf x_lnsOf) true [(0, false), (1, false), (2, true), (3, true), (4, true), (5, true), (6, true), (7, true), (8, true), (9, false), (10, false), (11, false), (12, false), (13, true), (14, true), (15, true), (16, true), (17, true), (18, true), (19, true), (20, true), (21, true), (22, true), (23, true), (24, false), (25, false), (26, false), (27, false), (28, true), (29, true), (30, true), (31, true), (32, true), (33, true)] (by kernel_rfl) (by cbv) ?_) | (refine aw_dr (id := 25) hj tok hm (bookGB x_ordG x_lsN x_lsC x_rsE x_grA x_grB x_grR x_rC x_nR x_rlsOf x_fewG x_validG x_sameGr x_sC x_nS x_strsOf x_lnsOf) true [(0, false), (1, false), (2, true), (3, true), (4, true), (5, true), (6, true), (7, true), (8, true), (9, false), (10, false), (11, false), (12, false), (13, true), (14, true), (15, true), (16, true), (17, true), (18, true), (19, true), (20, true), (21, true), (22, true), (23, true), (24, false), (25, false), (26, false), (27, false), (28, true), (29, true), (30, true), (31, true), (32, true), (33, true)] (by kernel_rfl) (by cbv) ?_) | (refine aw_tr hj tok (bookGB x_ordG x_lsN x_lsC x_rsE x_grA x_grB x_grR x_rC x_nR x_rlsOf x_fewG x_validG x_sameGr x_sC x_nS x_strsOf x_lnsOf) (by cbv) ?_) | (refine aw_seq fun K hK => ?_) | (refine aw_tr1 hj tok (bookGB x_ordG x_lsN x_lsC x_rsE x_grA x_grB x_grR x_rC x_nR x_rlsOf x_fewG x_validG x_sameGr x_sC x_nS x_strsOf x_lnsOf) (by cbv) ?_) | (refine aw_skip ?_) | (refine aw_block ?_) | (refine aw_exit ?_) | (refine aw_ret ⟨.inr rfl, ret_okj hj (by cbv) ?_ ?_⟩) | (refine aw_ret ?_) | (with_reducible first | refine th_n ?_ | refine th_r ?_ | refine th_x ?_ | refine blk_n ?_ | refine blk_r ?_ | refine blk_x ?_ | refine blk_y rfl ?_) | (refine ⟨.inr rfl, ret_okj hj (by cbv) ?_ ?_⟩) | (refine ⟨.inl rfl, ret_okj hj (by cbv) ?_ ?_⟩) | (with_reducible first | refine ⟨(_, _, _), by cbv, ?_, ?_⟩ | refine ⟨(_, _), by cbv, ?_, ?_⟩ | refine ⟨_, by cbv, ?_, ?_⟩) | (with_reducible apply_assumption -symm -exfalso only [*]))
      all_goals ((try subst y_ordG); (try subst y_lsN); (try subst y_lsC); (try subst y_rsE); (try subst y_grA); (try subst y_grB); (try subst y_grR); (try subst y_rC); (try subst y_nR); (try subst y_rlsOf); (try subst y_fewG); (try subst y_validG); (try subst y_sameGr); (try subst y_sC); (try subst y_nS); (try subst y_strsOf); (try subst y_lnsOf); (try subst y_al3C); (try subst y_ln3C); (try subst y_imS); (try subst y_iC); (try subst y_nI); (try subst y_itC))
      all_goals (try (repeat' first | with_reducible exact obl0 | (with_reducible refine obl1 ?_ ?_)))
      all_goals (try first | with_reducible exact True.intro | ((first | refine ob_le hj ?_ | refine ob_lei hj ?_ | refine ob_inb hj ?_ | refine ob_pos hj ?_ | refine ob_ne0 hj ?_ | refine ob_eqb hj ?_); (first | rfl | first | omega | (simp only [hj, std]; split <;> omega) | (simp (disch := omega) only [hj, std, cmpI, cmpB, satB, add64, sub64, ite0, pl0, pl2, pl3, sb0, if_true, if_false, eq_self, hlcl, hrl, hsl, htl, e4, e5, f5, f2, f6, f8, e1] <;> omega) | (simp (disch := omega) [hj, std, cmpI, cmpB, satB, add64, sub64, ite0, pl0, pl2, pl3, sb0, if_true, if_false, eq_self, hlcl, hrl, hsl, htl, e4, e5, f5, f2, f6, f8, e1] <;> omega))) | ((refine ob_ok hj ?_; simp only [hj, std, ite0, e4]; first | exact od1 | exact o0 | exact o1 | exact o2 | exact o4 | exact o5 | exact o6 | exact o7)) | ((simp (disch := omega) only [hj, std, add64, ite0]; first | omega | exact ⟨by omega, by omega⟩)))
    ·generalize y_ordG : @ordG = x_ordG at *
     generalize y_lsN : @lsN = x_lsN at *
     generalize y_lsC : @lsC = x_lsC at *
     generalize y_rsE : @rsE = x_rsE at *
     generalize y_grA : @grA = x_grA at *
     generalize y_grB : @grB = x_grB at *
     generalize y_grR : @grR = x_grR at *
     generalize y_rC : @rC = x_rC at *
     generalize y_nR : @nR = x_nR at *
     generalize y_rlsOf : @rlsOf = x_rlsOf at *
     generalize y_fewG : @fewG = x_fewG at *
     generalize y_validG : @validG = x_validG at *
     generalize y_sameGr : @sameGr = x_sameGr at *
     generalize y_sC : @sC = x_sC at *
     generalize y_nS : @nS = x_nS at *
     generalize y_strsOf : @strsOf = x_strsOf at *
     generalize y_lnsOf : @lnsOf = x_lnsOf at *
     generalize y_al3C : @al3C = x_al3C at *
     generalize y_ln3C : @ln3C = x_ln3C at *
     generalize y_imS : @imS = x_imS at *
     generalize y_iC : @iC = x_iC at *
     generalize y_nI : @nI = x_nI at *
     generalize y_itC : @itC = x_itC at *
     (repeat' first | ((first | with_reducible refine tr_cut (fun h => ?_) (fun h => ?_) | refine aw_condj (by cbv) (fun h => ?_) (fun h => ?_)) <;> (try simp (disch := omega) only [hj, std, cmpI, cmpB, satB, Bool.not_eq_true, Bool.not_eq_false, decide_eq_true_eq, decide_eq_false_iff_not, beq_iff_eq, bne_iff_ne, bne_eq_false_iff_eq, beq_eq_false_iff_ne, ne_eq, reduceCtorEq, not_true_eq_false, not_false_eq_true, pl0, if_true, cmpS_eq, cmpS_neq, Bool.not_eq_eq_eq_not, Bool.not_true, Bool.not_false, Bool.not_eq_true', ite0, e0, e1, x1, x2, x3, add64, sub64] at h) <;> (try (exfalso; omega))) | (with_reducible refine tr_alt (fun h => ?_) ?_ <;> (try (exfalso; omega))) | (with_reducible first | refine tr_ob ?_ ?_ | refine tr_done ?_) | (refine aw_tr hj tok (bookGB x_ordG x_lsN x_lsC x_rsE x_grA x_grB x_grR x_rC x_nR x_rlsOf x_fewG x_validG x_sameGr x_sC x_nS x_strsOf x_lnsOf) (by cbv) ?_) | (refine aw_seq fun K hK => ?_) | (refine aw_tr1 hj tok (bookGB x_ordG x_lsN x_lsC x_rsE x_grA x_grB x_grR x_rC x_nR x_rlsOf x_fewG x_validG x_sameGr x_sC x_nS x_strsOf x_lnsOf) (by cbv) ?_) | (refine aw_skip ?_) | (refine aw_block ?_) | (refine aw_exit ?_) | (refine aw_ret ⟨.inr rfl, ret_okj hj (by cbv) ?_ ?_⟩) | (refine aw_ret ?_) | (with_reducible first | refine th_n ?_ | refine th_r ?_ | refine th_x ?_ | refine blk_n ?_ | refine blk_r ?_ | refine blk_x ?_ | refine blk_y rfl ?_) | (refine ⟨.inr rfl, ret_okj hj (by cbv) ?_ ?_⟩) | (refine ⟨.inl rfl, ret_okj hj (by cbv) ?_ ?_⟩) | (with_reducible first | refine ⟨(_, _, _), by cbv, ?_, ?_⟩ | refine ⟨(_, _), by cbv, ?_, ?_⟩ | refine ⟨_, by cbv, ?_, ?_⟩) | (with_reducible apply_assumption -symm -exfalso only [*]))
     all_goals ((try subst y_ordG); (try subst y_lsN); (try subst y_lsC); (try subst y_rsE); (try subst y_grA); (try subst y_grB); (try subst y_grR); (try subst y_rC); (try subst y_nR); (try subst y_rlsOf); (try subst y_fewG); (try subst y_validG); (try subst y_sameGr); (try subst y_sC); (try subst y_nS); (try subst y_strsOf); (try subst y_lnsOf); (try subst y_al3C); (try subst y_ln3C); (try subst y_imS); (try subst y_iC); (try subst y_nI); (try subst y_itC))
     all_goals (try (repeat' first | with_reducible exact obl0 | (with_reducible refine obl1 ?_ ?_)))
     all_goals (try first | with_reducible exact True.intro | ((first | refine ob_le hj ?_ | refine ob_lei hj ?_ | refine ob_inb hj ?_ | refine ob_pos hj ?_ | refine ob_ne0 hj ?_ | refine ob_eqb hj ?_); (first | rfl | first | omega | (simp only [hj, std]; split <;> omega) | (simp (disch := omega) only [hj, std, cmpI, cmpB, satB, add64, sub64, ite0, pl0, pl2, pl3, sb0, if_true, if_false, eq_self, hlcl, hrl, e1] <;> omega) | (simp (disch := omega) [hj, std, cmpI, cmpB, satB, add64, sub64, ite0, pl0, pl2, pl3, sb0, if_true, if_false, eq_self, hlcl, hrl, e1] <;> omega))) | ((refine ob_ok hj ?_; simp only [hj, std, ite0]; first | exact o0 | exact o1)) | ((simp (disch := omega) only [hj, std, add64, ite0]; first | omega | exact ⟨by omega, by omega, by omega, by omega, by rw [kz, hT]; omega⟩)))
   ·rw [if_neg hRi] at hT
    generalize y_ordG : @ordG = x_ordG at *
    generalize y_lsN : @lsN = x_lsN at *
    generalize y_lsC : @lsC = x_lsC at *
    generalize y_rsE : @rsE = x_rsE at *
    generalize y_grA : @grA = x_grA at *
    generalize y_grB : @grB = x_grB at *
    generalize y_grR : @grR = x_grR at *
    generalize y_rC : @rC = x_rC at *
    generalize y_nR : @nR = x_nR at *
    generalize y_rlsOf : @rlsOf = x_rlsOf at *
    generalize y_fewG : @fewG = x_fewG at *
    generalize y_validG : @validG = x_validG at *
    generalize y_sameGr : @sameGr = x_sameGr at *
    generalize y_sC : @sC = x_sC at *
    generalize y_nS : @nS = x_nS at *
    generalize y_strsOf : @strsOf = x_strsOf at *
    generalize y_lnsOf : @lnsOf = x_lnsOf at *
    generalize y_al3C : @al3C = x_al3C at *
    generalize y_ln3C : @ln3C = x_ln3C at *
    generalize y_imS : @imS = x_imS at *
    generalize y_iC : @iC = x_iC at *
    generalize y_nI : @nI = x_nI at *
    generalize y_itC : @itC = x_itC at *
    (repeat' first | ((first | with_reducible refine tr_cut (fun h => ?_) (fun h => ?_) | refine aw_condj (by cbv) (fun h => ?_) (fun h => ?_)) <;> (try simp (disch := omega) only [hj, std, cmpI, cmpB, satB, Bool.not_eq_true, Bool.not_eq_false, decide_eq_true_eq, decide_eq_false_iff_not, beq_iff_eq, bne_iff_ne, bne_eq_false_iff_eq, beq_eq_false_iff_ne, ne_eq, reduceCtorEq, not_true_eq_false, not_false_eq_true, pl0, if_true, cmpS_eq, cmpS_neq, Bool.not_eq_eq_eq_not, Bool.not_true, Bool.not_false, Bool.not_eq_true', ite0, e0, x1, x2, x3, add64, sub64] at h) <;> (try (exfalso; omega))) | (with_reducible refine tr_alt (fun h => ?_) ?_ <;> (try (exfalso; omega))) | (with_reducible first | refine tr_ob ?_ ?_ | refine tr_done ?_) | (refine aw_tr hj tok (bookGB x_ordG x_lsN x_lsC x_rsE x_grA x_grB x_grR x_rC x_nR x_rlsOf x_fewG x_validG x_sameGr x_sC x_nS x_strsOf x_lnsOf) (by cbv) ?_) | (refine aw_seq fun K hK => ?_) | (refine aw_tr1 hj tok (bookGB x_ordG x_lsN x_lsC x_rsE x_grA x_grB x_grR x_rC x_nR x_rlsOf x_fewG x_validG x_sameGr x_sC x_nS x_strsOf x_lnsOf) (by cbv) ?_) | (refine aw_skip ?_) | (refine aw_block ?_) | (refine aw_exit ?_) | (refine aw_ret ⟨.inr rfl, ret_okj hj (by cbv) ?_ ?_⟩) | (refine aw_ret ?_) | (with_reducible first | refine th_n ?_ | refine th_r ?_ | refine th_x ?_ | refine blk_n ?_ | refine blk_r ?_ | refine blk_x ?_ | refine blk_y rfl ?_) | (refine ⟨.inr rfl, ret_okj hj (by cbv) ?_ ?_⟩) | (refine ⟨.inl rfl, ret_okj hj (by cbv) ?_ ?_⟩) | (with_reducible first | refine ⟨(_, _, _), by cbv, ?_, ?_⟩ | refine ⟨(_, _), by cbv, ?_, ?_⟩ | refine ⟨_, by cbv, ?_, ?_⟩) | (with_reducible apply_assumption -symm -exfalso only [*]))
    all_goals ((try subst y_ordG); (try subst y_lsN); (try subst y_lsC); (try subst y_rsE); (try subst y_grA); (try subst y_grB); (try subst y_grR); (try subst y_rC); (try subst y_nR); (try subst y_rlsOf); (try subst y_fewG); (try subst y_validG); (try subst y_sameGr); (try subst y_sC); (try subst y_nS); (try subst y_strsOf); (try subst y_lnsOf); (try subst y_al3C); (try subst y_ln3C); (try subst y_imS); (try subst y_iC); (try subst y_nI); (try subst y_itC))
    all_goals (try (repeat' first | with_reducible exact obl0 | (with_reducible refine obl1 ?_ ?_)))
    all_goals (try first | with_reducible exact True.intro | ((first | refine ob_le hj ?_ | refine ob_lei hj ?_ | refine ob_inb hj ?_ | refine ob_pos hj ?_ | refine ob_ne0 hj ?_ | refine ob_eqb hj ?_); (first | rfl | first | omega | (simp only [hj, std]; split <;> omega) | (simp (disch := omega) only [hj, std, cmpI, cmpB, satB, add64, sub64, ite0, pl0, pl2, pl3, sb0, if_true, if_false, eq_self, hlcl, hrl] <;> omega) | (simp (disch := omega) [hj, std, cmpI, cmpB, satB, add64, sub64, ite0, pl0, pl2, pl3, sb0, if_true, if_false, eq_self, hlcl, hrl] <;> omega))) | ((refine ob_ok hj ?_; simp only [hj, std, ite0]; first | exact o0 | exact o1)) | ((simp (disch := omega) only [hj, std, add64, ite0]; first | omega | exact ⟨by omega, by omega, by omega, by omega, by rw [kz, hT]; omega⟩)))
  ·rw [List.take_of_length_le (by omega)] at hn
   generalize y_ordG : @ordG = x_ordG at *
   generalize y_lsN : @lsN = x_lsN at *
   generalize y_lsC : @lsC = x_lsC at *
   generalize y_rsE : @rsE = x_rsE at *
   generalize y_grA : @grA = x_grA at *
   generalize y_grB : @grB = x_grB at *
   generalize y_grR : @grR = x_grR at *
   generalize y_rC : @rC = x_rC at *
   generalize y_nR : @nR = x_nR at *
   generalize y_rlsOf : @rlsOf = x_rlsOf at *
   generalize y_fewG : @fewG = x_fewG at *
   generalize y_validG : @validG = x_validG at *
   generalize y_sameGr : @sameGr = x_sameGr at *
   generalize y_sC : @sC = x_sC at *
   generalize y_nS : @nS = x_nS at *
   generalize y_strsOf : @strsOf = x_strsOf at *
   generalize y_lnsOf : @lnsOf = x_lnsOf at *
   generalize y_al3C : @al3C = x_al3C at *
   generalize y_ln3C : @ln3C = x_ln3C at *
   generalize y_imS : @imS = x_imS at *
   generalize y_iC : @iC = x_iC at *
   generalize y_nI : @nI = x_nI at *
   generalize y_itC : @itC = x_itC at *
   (repeat' first | ((first | with_reducible refine tr_cut (fun h => ?_) (fun h => ?_) | refine aw_condj (by cbv) (fun h => ?_) (fun h => ?_)) <;> (try simp (disch := omega) only [hj, std, cmpI, cmpB, satB, Bool.not_eq_true, Bool.not_eq_false, decide_eq_true_eq, decide_eq_false_iff_not, beq_iff_eq, bne_iff_ne, bne_eq_false_iff_eq, beq_eq_false_iff_ne, ne_eq, reduceCtorEq, not_true_eq_false, not_false_eq_true, pl0, if_true, cmpS_eq, cmpS_neq, Bool.not_eq_eq_eq_not, Bool.not_true, Bool.not_false, Bool.not_eq_true', ite0, f2, x1, x2, x3, add64, sub64] at h) <;> (try (exfalso; omega))) | (with_reducible refine tr_alt (fun h => ?_) ?_ <;> (try (exfalso; omega))) | (with_reducible first | refine tr_ob ?_ ?_ | refine tr_done ?_) | (refine aw_tr hj tok (bookGB x_ordG x_lsN x_lsC x_rsE x_grA x_grB x_grR x_rC x_nR x_rlsOf x_fewG x_validG x_sameGr x_sC x_nS x_strsOf x_lnsOf) (by cbv) ?_) | (refine aw_seq fun K hK => ?_) | (refine aw_tr1 hj tok (bookGB x_ordG x_lsN x_lsC x_rsE x_grA x_grB x_grR x_rC x_nR x_rlsOf x_fewG x_validG x_sameGr x_sC x_nS x_strsOf x_lnsOf) (by cbv) ?_) | (refine aw_skip ?_) | (refine aw_block ?_) | (refine aw_exit ?_) | (refine aw_ret ⟨.inr rfl, ret_okj hj (by cbv) ?_ ?_⟩) | (refine aw_ret ?_) | (with_reducible first | refine th_n ?_ | refine th_r ?_ | refine th_x ?_ | refine blk_n ?_ | refine blk_r ?_ | refine blk_x ?_ | refine blk_y rfl ?_) | (refine ⟨.inr rfl, ret_okj hj (by cbv) ?_ ?_⟩) | (refine ⟨.inl rfl, ret_okj hj (by cbv) ?_ ?_⟩) | (with_reducible first | refine ⟨(_, _, _), by cbv, ?_, ?_⟩ | refine ⟨(_, _), by cbv, ?_, ?_⟩ | refine ⟨_, by cbv, ?_, ?_⟩) | (with_reducible apply_assumption -symm -exfalso only [*]))
   all_goals ((try subst y_ordG); (try subst y_lsN); (try subst y_lsC); (try subst y_rsE); (try subst y_grA); (try subst y_grB); (try subst y_grR); (try subst y_rC); (try subst y_nR); (try subst y_rlsOf); (try subst y_fewG); (try subst y_validG); (try subst y_sameGr); (try subst y_sC); (try subst y_nS); (try subst y_strsOf); (try subst y_lnsOf); (try subst y_al3C); (try subst y_ln3C); (try subst y_imS); (try subst y_iC); (try subst y_nI); (try subst y_itC))
   all_goals (try (repeat' first | with_reducible exact obl0 | (with_reducible refine obl1 ?_ ?_)))
   all_goals (try first | with_reducible exact True.intro | ((first | refine ob_le hj ?_ | refine ob_lei hj ?_ | refine ob_inb hj ?_ | refine ob_pos hj ?_ | refine ob_ne0 hj ?_ | refine ob_eqb hj ?_); (first | rfl | first | omega | (simp only [hj, std]; split <;> omega) | (simp (disch := omega) only [hj, std, cmpI, cmpB, satB, add64, sub64, ite0, pl0, pl2, pl3, sb0, if_true, if_false, eq_self, hlcl, hrl, f2] <;> omega) | (simp (disch := omega) [hj, std, cmpI, cmpB, satB, add64, sub64, ite0, pl0, pl2, pl3, sb0, if_true, if_false, eq_self, hlcl, hrl, f2] <;> omega))) | ((refine ob_ok hj ?_; simp only [hj, std, ite0]; exact od1)) | ((exfalso; omega)) | ((simp (disch := omega) only [hj, std, add64, ite0]; first | omega | exact ⟨by omega, by omega, hln, hlc⟩)))
 ·rw [← hln, ← hlc] at u5
  generalize y_ordG : @ordG = x_ordG at *
  generalize y_lsN : @lsN = x_lsN at *
  generalize y_lsC : @lsC = x_lsC at *
  generalize y_rsE : @rsE = x_rsE at *
  generalize y_grA : @grA = x_grA at *
  generalize y_grB : @grB = x_grB at *
  generalize y_grR : @grR = x_grR at *
  generalize y_rC : @rC = x_rC at *
  generalize y_nR : @nR = x_nR at *
  generalize y_rlsOf : @rlsOf = x_rlsOf at *
  generalize y_fewG : @fewG = x_fewG at *
  generalize y_validG : @validG = x_validG at *
  generalize y_sameGr : @sameGr = x_sameGr at *
  generalize y_sC : @sC = x_sC at *
  generalize y_nS : @nS = x_nS at *
  generalize y_strsOf : @strsOf = x_strsOf at *
  generalize y_lnsOf : @lnsOf = x_lnsOf at *
  generalize y_al3C : @al3C = x_al3C at *
  generalize y_ln3C : @ln3C = x_ln3C at *
  generalize y_imS : @imS = x_imS at *
  generalize y_iC : @iC = x_iC at *
  generalize y_nI : @nI = x_nI at *
  generalize y_itC : @itC = x_itC at *
  (repeat' first | ((first | with_reducible refine tr_cut (fun h => ?_) (fun h => ?_) | refine aw_condj (by cbv) (fun h => ?_) (fun h => ?_)) <;> (try simp (disch := omega) only [hj, std, cmpI, cmpB, satB, Bool.not_eq_true, Bool.not_eq_false, decide_eq_true_eq, decide_eq_false_iff_not, beq_iff_eq, bne_iff_ne, bne_eq_false_iff_eq, beq_eq_false_iff_ne, ne_eq, reduceCtorEq, not_true_eq_false, not_false_eq_true, pl0, if_true, cmpS_eq, cmpS_neq, Bool.not_eq_eq_eq_not, Bool.not_true, Bool.not_false, Bool.not_eq_true', x1, x2, x3, add64, sub64] at h) <;> (try (exfalso; omega))) | (with_reducible refine tr_alt (fun h => ?_) ?_ <;> (try (exfalso; omega))) | (with_reducible first | refine tr_ob ?_ ?_ | refine tr_done ?_) | (refine aw_tr hj tok (bookGB x_ordG x_lsN x_lsC x_rsE x_grA x_grB x_grR x_rC x_nR x_rlsOf x_fewG x_validG x_sameGr x_sC x_nS x_strsOf x_lnsOf) (by cbv) ?_) | (refine aw_seq fun K hK => ?_) | (refine aw_tr1 hj tok (bookGB x_ordG x_lsN x_lsC x_rsE x_grA x_grB x_grR x_rC x_nR x_rlsOf x_fewG x_validG x_sameGr x_sC x_nS x_strsOf x_lnsOf) (by cbv) ?_) | (refine aw_skip ?_) | (refine aw_block ?_) | (refine aw_exit ?_) | (refine aw_ret ⟨.inr rfl, ret_okj hj (by cbv) ?_ ?_⟩) | (refine aw_ret ?_) | (with_reducible first | refine th_n ?_ | refine th_r ?_ | refine th_x ?_ | refine blk_n ?_ | refine blk_r ?_ | refine blk_x ?_ | refine blk_y rfl ?_) | (refine ⟨.inr rfl, ret_okj hj (by cbv) ?_ ?_⟩) | (refine ⟨.inl rfl, ret_okj hj (by cbv) ?_ ?_⟩) | (with_reducible first | refine ⟨(_, _, _), by cbv, ?_, ?_⟩ | refine ⟨(_, _), by cbv, ?_, ?_⟩ | refine ⟨_, by cbv, ?_, ?_⟩) | (with_reducible apply_assumption -symm -exfalso only [*]))
  all_goals ((try subst y_ordG); (try subst y_lsN); (try subst y_lsC); (try subst y_rsE); (try subst y_grA); (try subst y_grB); (try subst y_grR); (try subst y_rC); (try subst y_nR); (try subst y_rlsOf); (try subst y_fewG); (try subst y_validG); (try subst y_sameGr); (try subst y_sC); (try subst y_nS); (try subst y_strsOf); (try subst y_lnsOf); (try subst y_al3C); (try subst y_ln3C); (try subst y_imS); (try subst y_iC); (try subst y_nI); (try subst y_itC))
  all_goals (try (have ho : ordG ts rs = true := (by assumption); obtain ⟨r1, r2, r3, r4⟩ := hb ho lc hlc))
  all_goals (try (repeat' first | with_reducible exact obl0 | with_reducible refine obl1 ?_ ?_))
  all_goals (try first | with_reducible exact True.intro | ((first | refine ob_pc hj ?_ | refine ob_pcn hj ?_); (try rw [hj]); first | exact u4 | exact u5 | exact u6 _ _ _ r2 r3 r4 | exact c_awake14) | ((first | refine ob_le hj ?_ | refine ob_lei hj ?_ | refine ob_inb hj ?_ | refine ob_pos hj ?_ | refine ob_ne0 hj ?_ | refine ob_eqb hj ?_); (first | rfl | first | omega | (simp only [hj, std]; split <;> omega) | (simp (disch := omega) only [hj, std, cmpI, cmpB, satB, add64, sub64, ite0, pl0, pl2, pl3, sb0, if_true, if_false, eq_self] <;> omega) | (simp (disch := omega) [hj, std, cmpI, cmpB, satB, add64, sub64, ite0, pl0, pl2, pl3, sb0, if_true, if_false, eq_self] <;> omega))) | (exact rfl) | ((exfalso; have k := ‹¬ rsE (lnsOf lc) = 0›; exact k r1)) | ((exfalso; have k := ‹sameGr ns ts rs _ _ _ = false›; rw [c7 _ _ _ r2 r3 r4] at k; cases k)))
end Go.Proofs.Ytgimfjmigoibgaa.A
/- A grammar that came in, as cells. -/
set_option linter.unusedSimpArgs false
set_option linter.unusedVariables false
set_option maxRecDepth 100000
set_option maxHeartbeats 4000000
namespace Go.Proofs.Ytgimfjmigoibgaa.A
open Go
abbrev RStrs : Rd (List ByteArray) := RSl 1 16 RStr
abbrev RInts : Rd (List Int) := RSl 1 8 RInt
abbrev RRule : Rd (Int × List Int) := RRec2 RInt RInts
abbrev RGram : Rd (List ByteArray × List ByteArray × List (Int × List Int)) := RRec3 RStrs RStrs (RSl 2 32 RRule)
theorem sl_mem {α : Type} {sz by_ : Nat} {R : Rd α} {w : World} {cs : List Value} {xs : List α} (h : RSl sz by_ R w cs xs) : ∀ x ∈ xs, ∃ cs', R w cs' x := by
 obtain ⟨a, cap, _, hs, _⟩ := h
 intro x hx
 obtain ⟨i, hi, rfl⟩ := List.mem_iff_getElem.1 hx
 obtain ⟨b, off, _, _, hc⟩ := hs (by omega)
 obtain ⟨cs', _, _, h3⟩ := hc i hi
 exact ⟨cs', h3⟩
theorem sl_bound {α : Type} {sz by_ : Nat} {R : Rd α} {w : World} {cs : List Value} {xs : List α} (h : RSl sz by_ R w cs xs) : xs.length * by_ ≤ 140737488351232 := by
 obtain ⟨a, cap, _, _, hle, hcap, _⟩ := h
 exact Nat.le_trans (Nat.mul_le_mul_right _ hle) hcap
theorem rC_flat (l : List Rl) : l.flatMap (fun r => [vI r.1] ++ [.sl r.2.length (r.2.flatMap fun n => [vI n])]) = rC l := by
 unfold rC
 congr 1
 funext r
 rw [iC_flat, ← nI_eq]; rfl
theorem rdc_to {α : Type} {R : Rd α} {f g : α → List C} (h : RdC R f) (e : ∀ x, f x = g x) : RdC R g := by rw [← show f = g from funext e]; exact h
theorem rdc_strs : RdC RStrs fun l => [(C.sl (nS l) (sC l))] := rdc_to (rdc_sl rdc_str (fun _ => rfl)) fun l => by show [C.sl l.length _] = _; rw [sC_flat, ← nS_eq]
theorem rdc_rules : RdC (RSl 2 32 RRule) fun l => [(C.sl (nR l) (rC l))] :=
 rdc_to (rdc_sl (f := fun r : Rl => [vI r.1] ++ [.sl r.2.length (r.2.flatMap fun n => [vI n])]) (rdc_rec2 rdc_int (rdc_sl rdc_int (fun _ => rfl))) (fun _ => rfl)) fun l => by show [C.sl l.length _] = _; rw [rC_flat, ← nR_eq]
theorem rdc_gram : RdC RGram fun x => [(C.sl (nS x.1) (sC x.1)), (C.sl (nS x.2.1) (sC x.2.1)), (C.sl (nR x.2.2) (rC x.2.2))] := rdc_rec3 rdc_strs rdc_strs rdc_rules
structure GrB (ns ts : List ByteArray) (rs : List Rl) : Prop where
 n : nS ns < 4611686018427387904
 t : nS ts < 4611686018427387904
 r : nR rs < 2305843009213693952
 i : ∀ r ∈ rs, nI r.2 < 4611686018427387904
 s : ∀ s ∈ ns, s.size < 4611686018427387904
 u : ∀ s ∈ ts, s.size < 4611686018427387904
theorem gram_b {w : World} {cs : List Value} {x : List ByteArray × List ByteArray × List (Int × List Int)} (h : RGram w cs x) : GrB x.1 x.2.1 x.2.2 := by
 obtain ⟨c0, c1, c2, rfl, h0, h1, h2⟩ := h
 have b0 := sl_bound h0; have b1 := sl_bound h1; have b2 := sl_bound h2
 refine ⟨by rw [nS_eq]; omega, by rw [nS_eq]; omega, by rw [nR_eq]; omega, fun r hr => ?_, fun s hs => ?_, fun s hs => ?_⟩
 ·obtain ⟨cs', d0, d1, _, _, h3⟩ := sl_mem h2 r hr
  have := sl_bound h3
  rw [nI_eq]; omega
 ·obtain ⟨cs', _, h3⟩ := sl_mem h0 s hs; omega
 ·obtain ⟨cs', _, h3⟩ := sl_mem h1 s hs; omega
theorem gram_arg {w : World} {a : Array Value} {x : List ByteArray × List ByteArray × List (Int × List Int)} {bx : Nat → Nat} {b : Nat} (h : RGram w (Value.agg a).cells.toList x) : ArgRep w (fun b => b < w.heap.size) bx b (.agg a) (.v true [(C.sl (nS x.1) (sC x.1)), (C.sl (nS x.2.1) (sC x.2.1)), (C.sl (nR x.2.2) (rC x.2.2))]) := by
 obtain ⟨h1, h2⟩ := rdc_gram w _ x h
 have e : (Value.agg a).cells.toList = a.toList := rfl
 rw [e] at h1 h2
 refine ⟨a, rfl, by simpa using h1, fun k hk hk2 => ?_⟩
 have := h2 k (by simpa using hk2) hk
 rwa [Array.getElem_toList] at this
end Go.Proofs.Ytgimfjmigoibgaa.A
/- GramBack: the walk, as the row's step asks for it. -/
set_option linter.unusedSimpArgs false
set_option linter.unusedVariables false
set_option maxRecDepth 100000
set_option maxHeartbeats 4000000
namespace Go.Proofs.Ytgimfjmigoibgaa
open Go Go.RowKit
theorem gramBack_walk (w : World) (a0 : Array Value) (x0 : List ByteArray × List ByteArray × List (Int × List Int)) (R0 : A.RGram w (Value.agg a0).cells.toList x0) :
    Calls Try.prog 8 #[.agg a0] w fun e w' => e = .returned (.bool true) ∧ Below w.heap.size w w' := by
  have hb := A.gram_b R0
  exact A.walk_of_pc (vs := [.agg a0]) (A.pc_GramBackL x0.1 x0.2.1 x0.2.2 hb.n hb.t hb.r hb.i hb.s hb.u) (by simp [A.Arg.asRoot]) (fun b => b < w.heap.size) (fun _ h => h) rfl (fun i h h2 => by
    have h3 : i < 1 := h
    obtain rfl : i = 0 := by omega
    exact A.gram_arg R0)
end Go.Proofs.Ytgimfjmigoibgaa
