/- Sets of words: the law WsetJoins. -/
import Derived.Test.YtkkieddebnhpcaaWs11
set_option linter.unusedSimpArgs false
set_option linter.unusedVariables false
set_option maxRecDepth 100000
set_option maxHeartbeats 4000000
namespace Go.Proofs.Ytkkieddebnhpcaa.A
open Go
def bookJ (x_sC : List ByteArray → List C) (x_nS : List ByteArray → Nat) (x_hasS : List ByteArray → ByteArray → Bool) (x_setS : List ByteArray → List ByteArray) (x_strsOf : List C → List ByteArray) (x_sameS : List ByteArray → List ByteArray → Bool) (x_fewS : List ByteArray → Bool) (x_slss : List C → List (List ByteArray)) (x_flat : List (List ByteArray) → List ByteArray) (x_meetS : List ByteArray → List ByteArray → List ByteArray) : Book := fun f xs => match f, xs with
  | 11, [.v false [.sl _ cs]] => some (ret1 (.st (vB (x_fewS (x_strsOf cs)))))
  | 12, [] => some (ret1 (.st (vB true)))
  | 13, [.v false [.sl _ cs]] => some (ret1 (.st ((C.sl (x_nS (x_setS (x_strsOf cs))) (x_sC (x_setS (x_strsOf cs)))))))
  | 15, [.v false [.sl _ cs], .v false [.sl _ ds]] => some (ret1 (.st (vB (x_sameS (x_strsOf cs) (x_strsOf ds)))))
  | 21, [.v false [.sl _ cs], .v false [.val (.string w)]] => some (ret1 (.st (vB (x_hasS (x_strsOf cs) w))))
  | 23, [.v false [.sl _ cs]] => some (ret1 (.own strT (x_nS (x_setS (x_flat (x_slss cs)))) (x_sC (x_setS (x_flat (x_slss cs))))))
  | 23, [.v false [.nil]] => some (ret1 (.own strT 0 []))
  | 24, [.v false [.sl _ cs], .v false [.sl _ ds]] => some (ret1 (.own strT (x_nS (x_meetS (x_strsOf cs) (x_strsOf ds))) (x_sC (x_meetS (x_strsOf cs) (x_strsOf ds)))))
  | _, _ => none
def jadd (j : J) (a b : Nat) : Nat := if b = 0 then a else if a = 0 then b else j.add a b
theorem jadd_eq {P : Program} {T : TT} {j : J} (hj : j = std P T) (a b : Nat) : jadd j a b = a + b := by
  unfold jadd
  have e : j.add a b = a + b := by rw [hj]; rfl
  rw [e]; exact pl2
theorem set60 {l : List ByteArray} (h : fewS (strsOf (sC l)) = true) : nS (setS (strsOf (sC l))) ≤ 60 ∧ ∀ s ∈ setS (strsOf (sC l)), s.size ≤ 20 := by
  rw [strsOf_sC] at h ⊢
  exact set_few60 (fewS_iff.1 h)
theorem few_out {l : List ByteArray} (h : fewS (strsOf (sC l)) = true) : nS l ≤ 60 ∧ ∀ s ∈ l, s.size ≤ 20 := by rw [strsOf_sC] at h; exact fewS_iff.1 h
theorem pc_WsetJoins (a b c : List ByteArray) (ha : nS a < 4611686018427387904) (hb : nS b < 4611686018427387904) (hc : nS c < 4611686018427387904) : PC Try.prog T 6 [.v false [(C.sl (nS a) (sC a))], .v false [(C.sl (nS b) (sC b))], .v false [(C.sl (nS c) (sC c))]] (ret1 (.st (vB true))) [] := by
  refine pc_of tok Try.func6 rfl (by rfl) ?_
  obtain ⟨j, hj⟩ : ∃ j : J, j = std Try.prog T := ⟨_, rfl⟩
  have hm : Try.prog.follows .mixedOrders = true := by kernel_rfl
  generalize y_sC : @sC = x_sC at *
  generalize y_nS : @nS = x_nS at *
  generalize y_hasS : @hasS = x_hasS at *
  generalize y_setS : @setS = x_setS at *
  generalize y_strsOf : @strsOf = x_strsOf at *
  generalize y_sameS : @sameS = x_sameS at *
  generalize y_fewS : @fewS = x_fewS at *
  generalize y_slss : @slss = x_slss at *
  generalize y_flat : @flat = x_flat at *
  generalize y_meetS : @meetS = x_meetS at *
  generalize y_nB : @nB = x_nB at *
  (repeat' first | (with_reducible refine tr_cut (fun h => ?_) (fun h => ?_) <;> (try simp (disch := omega) only [hj, std, cmpI, cmpB, satB, Bool.not_eq_true, Bool.not_eq_false, decide_eq_true_eq, decide_eq_false_iff_not, beq_iff_eq, bne_iff_ne, bne_eq_false_iff_eq, beq_eq_false_iff_ne, ne_eq, reduceCtorEq, not_true_eq_false, not_false_eq_true, pl0, if_true, cmpS_eq, cmpS_neq, Bool.not_eq_eq_eq_not, Bool.not_true, Bool.not_false, Bool.not_eq_true', add64, sub64] at h) <;> (try (exfalso; omega))) | (with_reducible refine tr_alt (fun h => ?_) ?_ <;> (try (exfalso; omega))) | (with_reducible refine tr_ob ?_ ?_) | (with_reducible refine tr_done ?_) | (refine aw_tr hj tok (bookJ x_sC x_nS x_hasS x_setS x_strsOf x_sameS x_fewS x_slss x_flat x_meetS) (by cbv) ?_) | (refine aw_seq fun K hK => ?_) | (refine aw_tr1 hj tok (bookJ x_sC x_nS x_hasS x_setS x_strsOf x_sameS x_fewS x_slss x_flat x_meetS) (by cbv) ?_) | (refine aw_condj (by cbv) (fun h => ?_) (fun h => ?_) <;> (try simp (disch := omega) only [hj, std, cmpI, cmpB, satB, Bool.not_eq_true, Bool.not_eq_false, decide_eq_true_eq, decide_eq_false_iff_not, beq_iff_eq, bne_iff_ne, bne_eq_false_iff_eq, beq_eq_false_iff_ne, ne_eq, reduceCtorEq, not_true_eq_false, not_false_eq_true, pl0, if_true, cmpS_eq, cmpS_neq, Bool.not_eq_eq_eq_not, Bool.not_true, Bool.not_false, Bool.not_eq_true', add64, sub64] at h) <;> (try (exfalso; omega))) | (refine aw_skip ?_) | (refine aw_block ?_) | (refine aw_exit ?_) | (refine aw_ret ⟨.inr rfl, ret_okj hj (by cbv) ?_ ?_⟩) | (refine aw_ret ?_) | (with_reducible refine th_n ?_) | (with_reducible refine th_r ?_) | (with_reducible refine th_x ?_) | (with_reducible refine blk_n ?_) | (with_reducible refine blk_r ?_) | (with_reducible refine blk_x ?_) | (with_reducible refine blk_y rfl ?_) | (refine ⟨.inr rfl, ret_okj hj (by cbv) ?_ ?_⟩) | (refine ⟨.inl rfl, ret_okj hj (by cbv) ?_ ?_⟩) | ((with_reducible refine ⟨(_, _, _, _, _, _, _), by cbv, ?_, ?_⟩)) | ((with_reducible refine ⟨(_, _, _, _, _, _), by cbv, ?_, ?_⟩)) | ((with_reducible refine ⟨(_, _, _, _, _), by cbv, ?_, ?_⟩)) | ((with_reducible refine ⟨(_, _, _, _), by cbv, ?_, ?_⟩)) | ((with_reducible refine ⟨(_, _, _), by cbv, ?_, ?_⟩)) | ((with_reducible refine ⟨(_, _), by cbv, ?_, ?_⟩)) | ((with_reducible refine ⟨_, by cbv, ?_, ?_⟩)) | (with_reducible apply_assumption -symm -exfalso only [*]))
  all_goals ((try subst y_sC); (try subst y_nS); (try subst y_hasS); (try subst y_setS); (try subst y_strsOf); (try subst y_sameS); (try subst y_fewS); (try subst y_slss); (try subst y_flat); (try subst y_meetS); (try subst y_nB))
  all_goals (try (have q := ‹fewS (strsOf (sC a)) = true›; obtain ⟨f1, f2⟩ := few_out q; obtain ⟨f3, f4⟩ := set60 q))
  all_goals (try (have q := ‹fewS (strsOf (sC b)) = true›; obtain ⟨g1, g2⟩ := few_out q; obtain ⟨g3, g4⟩ := set60 q))
  all_goals (try (have q := ‹fewS (strsOf (sC c)) = true›; obtain ⟨k1, k2⟩ := few_out q; obtain ⟨k3, k4⟩ := set60 q))
  all_goals (try (repeat' first | with_reducible exact obl0 | with_reducible refine obl1 ?_ ?_))
  all_goals (try first | with_reducible exact True.intro | (refine ob_pc hj ?_; (try rw [hj]); first | exact c_few rfl rfl ha | exact c_few rfl rfl hb | exact c_few rfl rfl hc | exact c_awake | exact c_Of19 rfl rfl (by omega) (fun s hs => Nat.le_trans (f2 s hs) (by omega)) | exact c_Of19 rfl rfl (by omega) (fun s hs => Nat.le_trans (g2 s hs) (by omega)) | exact c_Of19 rfl rfl (by omega) (fun s hs => Nat.le_trans (k2 s hs) (by omega))) | (refine ob_le hj ?_; (first | omega | (simp only [hj, std]; split <;> omega) | (simp (disch := omega) only [hj, std, cmpI, cmpB, satB, add64, sub64, ite0, pl0, pl2, pl3, sb0, if_true, if_false, eq_self, sC_len] <;> omega) | (simp (disch := omega) [hj, std, cmpI, cmpB, satB, add64, sub64, ite0, pl0, pl2, pl3, sb0, if_true, if_false, eq_self, sC_len] <;> omega))) | (refine ob_lei hj ?_; (first | omega | (simp only [hj, std]; split <;> omega) | (simp (disch := omega) only [hj, std, cmpI, cmpB, satB, add64, sub64, ite0, pl0, pl2, pl3, sb0, if_true, if_false, eq_self, sC_len] <;> omega) | (simp (disch := omega) [hj, std, cmpI, cmpB, satB, add64, sub64, ite0, pl0, pl2, pl3, sb0, if_true, if_false, eq_self, sC_len] <;> omega))) | (refine ob_inb hj ?_; (first | omega | (simp only [hj, std]; split <;> omega) | (simp (disch := omega) only [hj, std, cmpI, cmpB, satB, add64, sub64, ite0, pl0, pl2, pl3, sb0, if_true, if_false, eq_self, sC_len] <;> omega) | (simp (disch := omega) [hj, std, cmpI, cmpB, satB, add64, sub64, ite0, pl0, pl2, pl3, sb0, if_true, if_false, eq_self, sC_len] <;> omega))) | (refine ob_pos hj ?_; (first | omega | (simp only [hj, std]; split <;> omega) | (simp (disch := omega) only [hj, std, cmpI, cmpB, satB, add64, sub64, ite0, pl0, pl2, pl3, sb0, if_true, if_false, eq_self, sC_len] <;> omega) | (simp (disch := omega) [hj, std, cmpI, cmpB, satB, add64, sub64, ite0, pl0, pl2, pl3, sb0, if_true, if_false, eq_self, sC_len] <;> omega))) | (refine ob_ne0 hj ?_; (first | omega | (simp only [hj, std]; split <;> omega) | (simp (disch := omega) only [hj, std, cmpI, cmpB, satB, add64, sub64, ite0, pl0, pl2, pl3, sb0, if_true, if_false, eq_self, sC_len] <;> omega) | (simp (disch := omega) [hj, std, cmpI, cmpB, satB, add64, sub64, ite0, pl0, pl2, pl3, sb0, if_true, if_false, eq_self, sC_len] <;> omega))) | (refine ob_eqb hj ?_; (first | rfl | first | omega | (simp only [hj, std]; split <;> omega) | (simp (disch := omega) only [hj, std, cmpI, cmpB, satB, add64, sub64, ite0, pl0, pl2, pl3, sb0, if_true, if_false, eq_self, sC_len] <;> omega) | (simp (disch := omega) [hj, std, cmpI, cmpB, satB, add64, sub64, ite0, pl0, pl2, pl3, sb0, if_true, if_false, eq_self, sC_len] <;> omega))) | (exact rfl))
  have hA := strsOf_sC a
  have hB := strsOf_sC b
  have hC := strsOf_sC c
  have sA : Set' (setS (strsOf (sC a))) := setS_set _
  have sB : Set' (setS (strsOf (sC b))) := setS_set _
  have sD : Set' (setS (strsOf (sC c))) := setS_set _
  generalize setS (strsOf (sC a)) = A at *
  generalize setS (strsOf (sC b)) = B at *
  generalize setS (strsOf (sC c)) = D at *
  have nA := nS_eq A
  have nB := nS_eq B
  have nD := nS_eq D
  have nE : nS (A ++ B ++ D) = nS A + nS B + nS D := by rw [nS_eq, List.length_append, List.length_append]; omega
  refine aw_lpj hj [(0, .keep), (1, .keep), (2, .keep), (7, .own strT), (8, .own strT), (9, .keep)] [] (fun (⟨i, n, cs, na, ca⟩ : Int × Nat × (List C) × Nat × (List C)) => stOf 79 [(0, .one (.c ((C.sl (nS A) (sC A))))), (1, .one (.c ((C.sl (nS B) (sC B))))), (2, .one (.c ((C.sl (nS D) (sC D))))), (7, .one (.view 7 0)), (8, .one (.view 8 0)), (9, .one (.c (vI i)))] [(7, .loose [.own strT na ca]), (8, .loose [.own strT n cs])]) (fun (⟨i, n, cs, na, ca⟩ : Int × Nat × (List C) × Nat × (List C)) => nS A - i.toNat) (fun (⟨i, n, cs, na, ca⟩ : Int × Nat × (List C) × Nat × (List C)) => 0 ≤ i ∧ i ≤ nS A ∧ n = nS (meetS (A.take i.toNat) B) ∧ cs = sC (meetS (A.take i.toNat) B) ∧ na = nS (A ++ B ++ D) ∧ ca = sC (A ++ B ++ D)) ((0, 0, [], jadd j (jadd j (jadd j 0 (nS A)) (nS B)) (nS D), j.app (j.app (j.app [] (sC A)) (sC B)) (sC D))) (by generalize @sC = x_sC; generalize @nS = x_nS; generalize @hasS = x_hasS; generalize @setS = x_setS; generalize @strsOf = x_strsOf; generalize @sameS = x_sameS; generalize @fewS = x_fewS; generalize @slss = x_slss; generalize @flat = x_flat; generalize @meetS = x_meetS; generalize @nB = x_nB; cbv) ?_ (fun ⟨i, n, cs, na, ca⟩ hI => ?_)
  · refine ⟨by omega, by omega, rfl, rfl, ?_, ?_⟩
    · show jadd j _ _ = _; rw [jadd_eq hj, jadd_eq hj, jadd_eq hj, nE]; omega
    · show j.app _ _ = _; rw [hj, ← sC_app, ← sC_app]; rfl
  obtain ⟨i1, i2, i3, i4, i5, i6⟩ := hI
  have p5 : nS (meetS (A.take i.toNat) B) ≤ 60 := Nat.le_trans meet_few (by rw [List.length_take]; omega)
  have hx : gs (cellAt (sC A) i.toNat) = sAt A i.toNat := gs_sC A _
  have e1 : i < nS A → hasS (strsOf (sC B)) (gs (cellAt (sC A) i.toNat)) = true → n + 1 = nS (meetS (A.take (i + 1).toNat) B) ∧ cs ++ [C.val (.string (gs (cellAt (sC A) i.toNat)))] = sC (meetS (A.take (i + 1).toNat) B) := fun h q => by
    rw [strsOf_sC, hx] at q
    rw [meet_step i1 h, if_pos q, hx, i3, i4]
    exact ⟨by rw [nS_eq, nS_eq, List.length_append]; rfl, sC_snoc _ _⟩
  have e2 : i < nS A → hasS (strsOf (sC B)) (gs (cellAt (sC A) i.toNat)) = false → n = nS (meetS (A.take (i + 1).toNat) B) ∧ cs = sC (meetS (A.take (i + 1).toNat) B) := fun h q => by
    rw [strsOf_sC, hx] at q
    rw [meet_step i1 h, if_neg (by rw [q]; exact Bool.false_ne_true), i3, i4, List.append_nil]
    exact ⟨rfl, rfl⟩
  have m3 : ¬ i < nS A → n = nS (meetS A B) ∧ cs = sC (meetS A B) := fun h => by rw [take_fin A i h] at i3 i4; exact ⟨i3, i4⟩
  have hfl : flat (slss [.sl (nS A) (sC A), .sl (nS B) (sC B), .sl (nS D) (sC D)]) = A ++ B ++ D := by
    have e : slss [.sl (nS A) (sC A), .sl (nS B) (sC B), .sl (nS D) (sC D)] = [A, B, D] := slss_ssC [A, B, D]
    rw [e]; unfold flat; simp
  have nU : nS (setS (flat (slss [.sl (nS A) (sC A), .sl (nS B) (sC B), .sl (nS D) (sC D)]))) < 4611686018427387904 := by rw [hfl]; exact Nat.lt_of_le_of_lt set_nS (by rw [← nS_eq]; omega)
  have nV : nS (setS (strsOf ca)) < 4611686018427387904 := by rw [i6, strsOf_sC]; exact Nat.lt_of_le_of_lt set_nS (by rw [← nS_eq]; omega)
  have nM : nS (meetS (strsOf (sC A)) (strsOf (sC B))) < 4611686018427387904 := by rw [strsOf_sC]; exact Nat.lt_of_le_of_lt meet_few (by omega)
  have nM2 : nS (meetS A B) < 4611686018427387904 := Nat.lt_of_le_of_lt meet_few (by omega)
  have hUf : nS [A, B, D].flatten ≤ 1000000 := by
    have e : [A, B, D].flatten = A ++ B ++ D := by simp
    rw [e]; omega
  have zE : ∀ s ∈ A ++ B ++ D, s.size ≤ 100 := fun s hs => by
    rcases List.mem_append.1 hs with h1 | h1
    · rcases List.mem_append.1 h1 with h2 | h2
      · exact Nat.le_trans (f4 s h2) (by omega)
      · exact Nat.le_trans (g4 s h2) (by omega)
    · exact Nat.le_trans (k4 s h1) (by omega)
  generalize y_sC : @sC = x_sC at *
  generalize y_nS : @nS = x_nS at *
  generalize y_hasS : @hasS = x_hasS at *
  generalize y_setS : @setS = x_setS at *
  generalize y_strsOf : @strsOf = x_strsOf at *
  generalize y_sameS : @sameS = x_sameS at *
  generalize y_fewS : @fewS = x_fewS at *
  generalize y_slss : @slss = x_slss at *
  generalize y_flat : @flat = x_flat at *
  generalize y_meetS : @meetS = x_meetS at *
  generalize y_nB : @nB = x_nB at *
  (repeat' first | (with_reducible refine tr_cut (fun h => ?_) (fun h => ?_) <;> (try simp (disch := omega) only [hj, std, cmpI, cmpB, satB, Bool.not_eq_true, Bool.not_eq_false, decide_eq_true_eq, decide_eq_false_iff_not, beq_iff_eq, bne_iff_ne, bne_eq_false_iff_eq, beq_eq_false_iff_ne, ne_eq, reduceCtorEq, not_true_eq_false, not_false_eq_true, pl0, if_true, cmpS_eq, cmpS_neq, Bool.not_eq_eq_eq_not, Bool.not_true, Bool.not_false, Bool.not_eq_true', add64, sub64] at h) <;> (try (exfalso; omega))) | (with_reducible refine tr_alt (fun h => ?_) ?_ <;> (try (exfalso; omega))) | (with_reducible refine tr_ob ?_ ?_) | (with_reducible refine tr_done ?_) | (refine aw_tr hj tok (bookJ x_sC x_nS x_hasS x_setS x_strsOf x_sameS x_fewS x_slss x_flat x_meetS) (by cbv) ?_) | (refine aw_seq fun K hK => ?_) | (refine aw_tr1 hj tok (bookJ x_sC x_nS x_hasS x_setS x_strsOf x_sameS x_fewS x_slss x_flat x_meetS) (by cbv) ?_) | (refine aw_condj (by cbv) (fun h => ?_) (fun h => ?_) <;> (try simp (disch := omega) only [hj, std, cmpI, cmpB, satB, Bool.not_eq_true, Bool.not_eq_false, decide_eq_true_eq, decide_eq_false_iff_not, beq_iff_eq, bne_iff_ne, bne_eq_false_iff_eq, beq_eq_false_iff_ne, ne_eq, reduceCtorEq, not_true_eq_false, not_false_eq_true, pl0, if_true, cmpS_eq, cmpS_neq, Bool.not_eq_eq_eq_not, Bool.not_true, Bool.not_false, Bool.not_eq_true', add64, sub64] at h) <;> (try (exfalso; omega))) | (refine aw_skip ?_) | (refine aw_block ?_) | (refine aw_exit ?_) | (refine aw_ret ⟨.inr rfl, ret_okj hj (by cbv) ?_ ?_⟩) | (refine aw_ret ?_) | (with_reducible refine th_n ?_) | (with_reducible refine th_r ?_) | (with_reducible refine th_x ?_) | (with_reducible refine blk_n ?_) | (with_reducible refine blk_r ?_) | (with_reducible refine blk_x ?_) | (with_reducible refine blk_y rfl ?_) | (refine ⟨.inr rfl, ret_okj hj (by cbv) ?_ ?_⟩) | (refine ⟨.inl rfl, ret_okj hj (by cbv) ?_ ?_⟩) | ((with_reducible refine ⟨(_, _, _, _, _, _, _), by cbv, ?_, ?_⟩)) | ((with_reducible refine ⟨(_, _, _, _, _, _), by cbv, ?_, ?_⟩)) | ((with_reducible refine ⟨(_, _, _, _, _), by cbv, ?_, ?_⟩)) | ((with_reducible refine ⟨(_, _, _, _), by cbv, ?_, ?_⟩)) | ((with_reducible refine ⟨(_, _, _), by cbv, ?_, ?_⟩)) | ((with_reducible refine ⟨(_, _), by cbv, ?_, ?_⟩)) | ((with_reducible refine ⟨_, by cbv, ?_, ?_⟩)) | (with_reducible apply_assumption -symm -exfalso only [*]))
  all_goals ((try subst y_sC); (try subst y_nS); (try subst y_hasS); (try subst y_setS); (try subst y_strsOf); (try subst y_sameS); (try subst y_fewS); (try subst y_slss); (try subst y_flat); (try subst y_meetS); (try subst y_nB))
  all_goals (try (have q := ‹hasS _ _ = true›; have q1 := e1 (by omega) q))
  all_goals (try (have q := ‹hasS _ _ = false›; have q1 := e2 (by omega) q))
  all_goals (try (repeat' first | with_reducible exact obl0 | with_reducible refine obl1 ?_ ?_))
  all_goals (try first | with_reducible exact True.intro | (refine ob_pc hj ?_; (try rw [hj]); first | exact c_awake | exact c_HasR rfl rfl (by omega) | exact c_Union (l := [A, B, D]) rfl rfl (show 3 ≤ 1000000 by omega) hUf | exact c_Of19 i5 i6 (by omega) zE | exact c_Same19 rfl rfl rfl rfl nU nV | exact c_Union0 | exact c_Meet rfl rfl rfl rfl (by omega) (by omega) | exact c_Same19 rfl rfl (m3 (by omega)).1 (m3 (by omega)).2 nM nM2) | (refine ob_le hj ?_; (first | omega | (simp only [hj, std]; split <;> omega) | (simp (disch := omega) only [hj, std, cmpI, cmpB, satB, add64, sub64, ite0, pl0, pl2, pl3, sb0, if_true, if_false, eq_self, sC_len] <;> omega) | (simp (disch := omega) [hj, std, cmpI, cmpB, satB, add64, sub64, ite0, pl0, pl2, pl3, sb0, if_true, if_false, eq_self, sC_len] <;> omega))) | (refine ob_lei hj ?_; (first | omega | (simp only [hj, std]; split <;> omega) | (simp (disch := omega) only [hj, std, cmpI, cmpB, satB, add64, sub64, ite0, pl0, pl2, pl3, sb0, if_true, if_false, eq_self, sC_len] <;> omega) | (simp (disch := omega) [hj, std, cmpI, cmpB, satB, add64, sub64, ite0, pl0, pl2, pl3, sb0, if_true, if_false, eq_self, sC_len] <;> omega))) | (refine ob_inb hj ?_; (first | omega | (simp only [hj, std]; split <;> omega) | (simp (disch := omega) only [hj, std, cmpI, cmpB, satB, add64, sub64, ite0, pl0, pl2, pl3, sb0, if_true, if_false, eq_self, sC_len] <;> omega) | (simp (disch := omega) [hj, std, cmpI, cmpB, satB, add64, sub64, ite0, pl0, pl2, pl3, sb0, if_true, if_false, eq_self, sC_len] <;> omega))) | (refine ob_pos hj ?_; (first | omega | (simp only [hj, std]; split <;> omega) | (simp (disch := omega) only [hj, std, cmpI, cmpB, satB, add64, sub64, ite0, pl0, pl2, pl3, sb0, if_true, if_false, eq_self, sC_len] <;> omega) | (simp (disch := omega) [hj, std, cmpI, cmpB, satB, add64, sub64, ite0, pl0, pl2, pl3, sb0, if_true, if_false, eq_self, sC_len] <;> omega))) | (refine ob_ne0 hj ?_; (first | omega | (simp only [hj, std]; split <;> omega) | (simp (disch := omega) only [hj, std, cmpI, cmpB, satB, add64, sub64, ite0, pl0, pl2, pl3, sb0, if_true, if_false, eq_self, sC_len] <;> omega) | (simp (disch := omega) [hj, std, cmpI, cmpB, satB, add64, sub64, ite0, pl0, pl2, pl3, sb0, if_true, if_false, eq_self, sC_len] <;> omega))) | (refine ob_eqb hj ?_; (first | rfl | first | omega | (simp only [hj, std]; split <;> omega) | (simp (disch := omega) only [hj, std, cmpI, cmpB, satB, add64, sub64, ite0, pl0, pl2, pl3, sb0, if_true, if_false, eq_self, sC_len] <;> omega) | (simp (disch := omega) [hj, std, cmpI, cmpB, satB, add64, sub64, ite0, pl0, pl2, pl3, sb0, if_true, if_false, eq_self, sC_len] <;> omega))) | (exact rfl) | ((refine ob_ok hj ?_; simp only [hj, std, ite0]; exact ok_sC (by omega))) | ((refine ob_vals hj ?_; first | exact sC_vals _ | (intro c hc; cases hc))) | ((simp (disch := omega) only [hj, std, add64, ite0]; exact ⟨by omega, by omega, q1.1, q1.2, i5, i6⟩)) | ((simp (disch := omega) only [hj, std, add64]; omega)) | ((exfalso; have q := ‹sameS _ _ = false›; simp only [hfl, i6, strsOf_sC, sameS_self, reduceCtorEq] at q; done)) | ((exfalso; have q := ‹sameS _ _ = false›; simp only [(m3 (by omega)).2, strsOf_sC, sameS_self, reduceCtorEq] at q; done)))
end Go.Proofs.Ytkkieddebnhpcaa.A
