/- What the laws of this seat need, part 6. -/
import Derived.Test.YtcpcghnpoekhpaaDoorMz5
import Derived.Test.YtcpcghnpoekhpaaDoorRows
import Derived.LaidMore
import Derived.ProofKit
import Derived.OpenShut
import Derived.SevenTiedAt
import Derived.Lib.LaidTab
import Derived.MakeChecks
/- Machines, the reference: which pairs of states some word tells apart: the walk. -/
set_option linter.unusedSimpArgs false
set_option linter.unusedVariables false
set_option maxRecDepth 100000
set_option maxHeartbeats 4000000
namespace Go.Proofs.YtcpcghnpoekhpaaDoor.A
open Go
abbrev shX : Sh := .sl 25 [.sl 4 [.st]]
abbrev bT8 : TypeId := 4
def rwsOf (cs : List C) : List (List Bool) := cs.map fun c => (gc c).map gb
theorem rwsOf_mtC (l : List (List Bool)) : rwsOf (mtC l) = l := by
 unfold rwsOf mtC
 rw [List.map_map]
 refine (List.map_congr_left fun r _ => ?_).trans (List.map_id' l)
 show (bC r).map gb = r
 unfold bC
 rw [List.map_map]
 exact (List.map_congr_left fun x _ => rfl).trans (List.map_id' r)
theorem apT_stop {a b : List Sta} {i k : Nat} : ∀ (l : List Nat) {s : List (List Bool) × Bool}, xAt s.1 i k = true → l.foldl (apT a b i k) s = s
 | [], _, _ => rfl
 | t :: l, s, h => by
  have e : apT a b i k s t = s := by unfold apT; rw [if_pos h]
  rw [List.foldl_cons, e]; exact apT_stop l h
theorem apK_stop {a b : List Sta} {n i k t : Nat} {s s1 : List (List Bool) × Bool} (ht : t ≤ n) (hs : s = (List.range t).foldl (apT a b i k) s1) (h : xAt s.1 i k = true) : apK a b n i s1 k = s := by
 unfold apK
 obtain ⟨e, rfl⟩ : ∃ e, n = t + e := ⟨n - t, by omega⟩
 rw [List.range_add, List.foldl_append, ← hs]
 exact apT_stop _ h
set_option maxHeartbeats 40000000 in
theorem pc_Apart (a b : List Sta) (n : Nat) (ha : SzM a) (hb : SzM b) (hn : n ≤ 1000000) : PC Tryd.prog T 20 [.v false [.sl (nM a) (mC a)], .v false [.sl (nM b) (mC b)], .v false [vI n]] (ret1 (.tree shX (.sl (nMt (apF a b n)) (mtC (apF a b n))) none)) [] := by
 have na := nM_eq a
 have nb := nM_eq b
 have sa := ha.1
 have sb := hb.1
 have oa : ∀ s, outC (mC a) s = outM a s := fun s => by unfold outC; rw [stsOf_mC]
 have ob : ∀ s, outC (mC b) s = outM b s := fun s => by unfold outC; rw [stsOf_mC]
 have ga : ∀ s t, goC (mC a) s t = goM a s t := fun s t => by unfold goC; rw [stsOf_mC]
 have gb' : ∀ s t, goC (mC b) s t = goM b s t := fun s t => by unfold goC; rw [stsOf_mC]
 have cOa := fun s => c_Out24 a s ha
 have cOb := fun s => c_Out24 b s hb
 have cGa := fun s t => c_Go24 a s t ha
 have cGb := fun s t => c_Go24 b s t hb
 have hr0 := ap0_rect a b
 have hrow : ∀ i q : Nat, i < a.length + 1 → q < b.length + 1 → xAt (ap0 a b) i q = decide (outM a i ≠ outM b q) := fun i q h1 h2 => by
  have e : rwAt (ap0 a b) i = (List.range (b.length + 1)).map fun k : Nat => decide (outM a i ≠ outM b k) := by
   unfold rwAt ap0; rw [List.getD_eq_getElem?_getD, List.getElem?_map, List.getElem?_range h1]; rfl
  show bAt (rwAt (ap0 a b) i) q = _
  rw [e]
  show ((List.range (b.length + 1)).map _).getD q false = _
  rw [List.getD_eq_getElem?_getD, List.getElem?_map, List.getElem?_range h2]; rfl
 refine pc_of tok Tryd.func20 rfl (by rfl) ?_
 obtain ⟨j, hj⟩ : ∃ j : J, j = std Tryd.prog T := ⟨_, rfl⟩
 have hm : Tryd.prog.follows .mixedOrders = true := by kernel_rfl
 generalize y_fewC : @fewC = x_fewC at *
 generalize y_valC : @valC = x_valC at *
 generalize y_outC : @outC = x_outC at *
 generalize y_goC : @goC = x_goC at *
 generalize y_bC : @bC = x_bC at *
 generalize y_nB : @nB = x_nB at *
 generalize y_mC : @mC = x_mC at *
 generalize y_nM : @nM = x_nM at *
 generalize y_mtC : @mtC = x_mtC at *
 generalize y_nMt : @nMt = x_nMt at *
 (repeat' first | ((first | with_reducible refine tr_cut (fun h => ?_) (fun h => ?_) | refine aw_condj (by cbv) (fun h => ?_) (fun h => ?_)) <;> (try simp (disch := omega) only [hj, std, cmpI, cmpB, satB, Bool.not_eq_true, Bool.not_eq_false, decide_eq_true_eq, decide_eq_false_iff_not, beq_iff_eq, bne_iff_ne, bne_eq_false_iff_eq, beq_eq_false_iff_ne, ne_eq, reduceCtorEq, not_true_eq_false, not_false_eq_true, pl0, if_true, cmpS_eq, cmpS_neq, Bool.not_eq_eq_eq_not, Bool.not_true, Bool.not_false, Bool.not_eq_true', add64, sub64] at h) <;> (try (exfalso; omega))) | (with_reducible refine tr_alt (fun h => ?_) ?_ <;> (try (exfalso; omega))) | (with_reducible first | refine tr_ob ?_ ?_ | refine tr_done ?_) | (refine aw_tr hj tok (bookM2 x_fewC x_valC x_outC x_goC) (by cbv) ?_) | (refine aw_seq fun K hK => ?_) | (refine aw_tr1 hj tok (bookM2 x_fewC x_valC x_outC x_goC) (by cbv) ?_) | (refine aw_skip ?_) | (refine aw_block ?_) | (refine aw_exit ?_) | (refine aw_ret ⟨.inr rfl, ret_okj hj (by cbv) ?_ ?_⟩) | (refine aw_ret ?_) | (with_reducible first | refine th_n ?_ | refine th_r ?_ | refine th_x ?_ | refine blk_n ?_ | refine blk_r ?_ | refine blk_x ?_ | refine blk_y rfl ?_) | (refine ⟨.inr rfl, ret_okj hj (by cbv) ?_ ?_⟩) | (refine ⟨.inl rfl, ret_okj hj (by cbv) ?_ ?_⟩) | (with_reducible first | refine ⟨(_, _, _, _), by cbv, ?_, ?_⟩ | refine ⟨(_, _, _), by cbv, ?_, ?_⟩ | refine ⟨_, by cbv, ?_, ?_⟩) | (with_reducible apply_assumption -symm -exfalso only [*]))
 all_goals ((try subst y_fewC); (try subst y_valC); (try subst y_outC); (try subst y_goC); (try subst y_bC); (try subst y_nB); (try subst y_mC); (try subst y_nM); (try subst y_mtC); (try subst y_nMt))
 all_goals (try (repeat' first | with_reducible exact obl0 | (with_reducible refine obl1 ?_ ?_)))
 all_goals (try first | with_reducible exact True.intro | ((first | refine ob_le hj ?_ | refine ob_lei hj ?_ | refine ob_inb hj ?_ | refine ob_pos hj ?_ | refine ob_ne0 hj ?_ | refine ob_eqb hj ?_); (first | rfl | first | omega | (simp only [hj, std]; split <;> omega) | (simp (disch := omega) only [hj, std, cmpI, cmpB, satB, add64, sub64, ite0, pl0, pl2, pl3, sb0, if_true, if_false, eq_self] <;> omega) | (simp (disch := omega) [hj, std, cmpI, cmpB, satB, add64, sub64, ite0, pl0, pl2, pl3, sb0, if_true, if_false, eq_self] <;> omega))))
 refine aw_lpj hj [(0, .keep), (1, .keep), (2, .keep), (7, .tree shX), (8, .keep)] [] (fun (⟨i, m, cs⟩ : Int × Nat × (List C)) => stOf 105 [(0, .one (.c (.sl (nM a) (mC a)))), (1, .one (.c (.sl (nM b) (mC b)))), (2, .one (.c (vI n))), (7, .one (.tv 7 0 [])), (8, .one (.c (vI i)))] [(7, .loose [.tree shX ((.sl m cs)) none])]) (fun (⟨i, m, cs⟩ : Int × Nat × (List C)) => nM a + 1 - i.toNat) (fun (⟨i, m, cs⟩ : Int × Nat × (List C)) => 0 ≤ i ∧ i ≤ nM a + 1 ∧ ∃ X, m = nMt X ∧ cs = mtC X ∧ X = (ap0 a b).take i.toNat) ((0, 0, [])) (by generalize @fewC = x_fewC; generalize @valC = x_valC; generalize @outC = x_outC; generalize @goC = x_goC; generalize @bC = x_bC; generalize @nB = x_nB; generalize @mC = x_mC; generalize @nM = x_nM; generalize @mtC = x_mtC; generalize @nMt = x_nMt; cbv) ?_ (fun ⟨i, m, cs⟩ hI => ?_)
 ·exact ⟨by omega, by omega, [], rfl, rfl, rfl⟩
 obtain ⟨i1, i2, X, rfl, rfl, hX⟩ := hI
 have nX := nMt_eq X
 have lX := mtC_len X
 have hXl : X.length = i.toNat := by rw [hX, List.length_take, hr0.1]; omega
 rcases Decidable.em (i ≤ (nM a : Int)) with hi | hi
 ·have f1 : (i + 1).toNat = i.toNat + 1 := by omega
  have hrep : (repC (nM b + 1) [vB false]).length = nM b + 1 := by rw [bC_rep, bC_len, nB_eq, List.length_replicate]
  have hr00 : repC (nM b + 1) [vB false] = bC (List.replicate (nM b + 1) false) := bC_rep _ _
  generalize y_fewC : @fewC = x_fewC at *
  generalize y_valC : @valC = x_valC at *
  generalize y_outC : @outC = x_outC at *
  generalize y_goC : @goC = x_goC at *
  generalize y_bC : @bC = x_bC at *
  generalize y_nB : @nB = x_nB at *
  generalize y_mC : @mC = x_mC at *
  generalize y_nM : @nM = x_nM at *
  generalize y_mtC : @mtC = x_mtC at *
  generalize y_nMt : @nMt = x_nMt at *
  (repeat' first | ((first | with_reducible refine tr_cut (fun h => ?_) (fun h => ?_) | refine aw_condj (by cbv) (fun h => ?_) (fun h => ?_)) <;> (try simp (disch := omega) only [hj, std, cmpI, cmpB, satB, Bool.not_eq_true, Bool.not_eq_false, decide_eq_true_eq, decide_eq_false_iff_not, beq_iff_eq, bne_iff_ne, bne_eq_false_iff_eq, beq_eq_false_iff_ne, ne_eq, reduceCtorEq, not_true_eq_false, not_false_eq_true, pl0, if_true, cmpS_eq, cmpS_neq, Bool.not_eq_eq_eq_not, Bool.not_true, Bool.not_false, Bool.not_eq_true', Int.ofNat_eq_natCast, add64, sub64] at h) <;> (try (exfalso; omega))) | (with_reducible refine tr_alt (fun h => ?_) ?_ <;> (try (exfalso; omega))) | (with_reducible first | refine tr_ob ?_ ?_ | refine tr_done ?_) | (refine aw_tr hj tok (bookM2 x_fewC x_valC x_outC x_goC) (by cbv) ?_) | (refine aw_seq fun K hK => ?_) | (refine aw_tr1 hj tok (bookM2 x_fewC x_valC x_outC x_goC) (by cbv) ?_) | (refine aw_skip ?_) | (refine aw_block ?_) | (refine aw_exit ?_) | (refine aw_ret ⟨.inr rfl, ret_okj hj (by cbv) ?_ ?_⟩) | (refine aw_ret ?_) | (with_reducible first | refine th_n ?_ | refine th_r ?_ | refine th_x ?_ | refine blk_n ?_ | refine blk_r ?_ | refine blk_x ?_ | refine blk_y rfl ?_) | (refine ⟨.inr rfl, ret_okj hj (by cbv) ?_ ?_⟩) | (refine ⟨.inl rfl, ret_okj hj (by cbv) ?_ ?_⟩) | (with_reducible first | refine ⟨(_, _, _, _), by cbv, ?_, ?_⟩ | refine ⟨(_, _, _), by cbv, ?_, ?_⟩ | refine ⟨_, by cbv, ?_, ?_⟩) | (with_reducible apply_assumption -symm -exfalso only [*]))
  all_goals ((try subst y_fewC); (try subst y_valC); (try subst y_outC); (try subst y_goC); (try subst y_bC); (try subst y_nB); (try subst y_mC); (try subst y_nM); (try subst y_mtC); (try subst y_nMt))
  all_goals (try (repeat' first | with_reducible exact obl0 | (with_reducible refine obl1 ?_ ?_)))
  all_goals (try first | with_reducible exact True.intro | ((first | refine ob_le hj ?_ | refine ob_lei hj ?_ | refine ob_inb hj ?_ | refine ob_pos hj ?_ | refine ob_ne0 hj ?_ | refine ob_eqb hj ?_); (first | rfl | first | omega | (simp only [hj, std]; split <;> omega) | (simp (disch := omega) only [hj, std, cmpI, cmpB, satB, add64, sub64, ite0, pl0, pl2, pl3, sb0, if_true, if_false, eq_self, lX, nX] <;> omega) | (simp (disch := omega) [hj, std, cmpI, cmpB, satB, add64, sub64, ite0, pl0, pl2, pl3, sb0, if_true, if_false, eq_self, lX, nX] <;> omega))))
  refine aw_lpj hj [(0, .keep), (1, .keep), (2, .keep), (7, .tree shX), (8, .keep), (9, .own bT8), (10, .keep)] [] (fun (⟨k, N, D⟩ : Int × Nat × (List C)) => stOf 105 [(0, .one (.c (.sl (nM a) (mC a)))), (1, .one (.c (.sl (nM b) (mC b)))), (2, .one (.c (vI n))), (7, .one (.tv 7 0 [])), (8, .one (.c (vI i))), (9, .one (.view 9 0)), (10, .one (.c (vI k)))] [(7, .loose [.tree shX ((.sl (nMt X) (mtC X))) none]), (9, .loose [.own bT8 N D])]) (fun (⟨k, N, D⟩ : Int × Nat × (List C)) => nM b + 1 - k.toNat) (fun (⟨k, N, D⟩ : Int × Nat × (List C)) => 0 ≤ k ∧ k ≤ nM b + 1 ∧ N = nM b + 1 ∧ ∃ r, D = bC r ∧ r.length = nM b + 1 ∧ ∀ q : Nat, (q : Int) < k → bAt r q = xAt (ap0 a b) i.toNat q) ((0, j.toNat (j.arith .add .i64 (j.ofNat (nM b)) 1), j.rep (j.toNat (j.arith .add .i64 (j.ofNat (nM b)) 1)) [vB false])) (by generalize @fewC = x_fewC; generalize @valC = x_valC; generalize @outC = x_outC; generalize @goC = x_goC; generalize @bC = x_bC; generalize @nB = x_nB; generalize @mC = x_mC; generalize @nM = x_nM; generalize @mtC = x_mtC; generalize @nMt = x_nMt; cbv) ?_ (fun ⟨k, N, D⟩ hI => ?_)
  ·have e : (j.toNat (j.arith .add .i64 (j.ofNat (nM b)) 1)) = nM b + 1 := by
    rw [hj]; simp (disch := omega) only [std, add64, Int.ofNat_eq_natCast]; omega
   rw [e]
   refine ⟨by omega, by omega, rfl, List.replicate (nM b + 1) false, ?_, by simp, fun q h => absurd h (by omega)⟩
   rw [hj]; exact hr00
  obtain ⟨k1, k2, rfl, r, hD, hrl, hrq⟩ := hI
  have lD : (bC r).length = nM b + 1 := by rw [bC_len, nB_eq, hrl]
  rw [← hD] at lD
  rcases Decidable.em (k ≤ (nM b : Int)) with hk | hk
  ·have f2 : (k + 1).toNat = k.toNat + 1 := by omega
   have hv := hrow i.toNat k.toNat (by omega) (by omega)
   rw [show ((i.toNat : Nat) : Int) = i by omega, show ((k.toNat : Nat) : Int) = k by omega] at hv
   have hset : setC D k.toNat [vB (decide (outM a i ≠ outM b k))] = bC (r.set k.toNat (decide (outM a i ≠ outM b k))) := by rw [hD]; exact bC_set r _ (by omega)
   have hnq : ∀ q : Nat, (q : Int) < k + 1 → bAt (r.set k.toNat (decide (outM a i ≠ outM b k))) q = xAt (ap0 a b) i.toNat q := fun q hq => by
    rw [bAt_set24 (by omega)]
    split
    ·rename_i e; rw [← e, hv]
    ·exact hrq q (by omega)
   have hdn : cmpI .neq (outM a i) (outM b k) = decide (outM a i ≠ outM b k) := by simp only [cmpI]; by_cases h : outM a i = outM b k <;> simp [h]
   generalize decide (outM a i ≠ outM b k) = v at *
   have o1 := oa i
   have o2 := ob k
   have c1 := cOa i
   have c2 := cOb k
   clear hrow hr0 oa ob ga gb' cOa cOb cGa cGb hX hv
   generalize y_fewC : @fewC = x_fewC at *
   generalize y_valC : @valC = x_valC at *
   generalize y_outC : @outC = x_outC at *
   generalize y_goC : @goC = x_goC at *
   generalize y_bC : @bC = x_bC at *
   generalize y_nB : @nB = x_nB at *
   generalize y_mC : @mC = x_mC at *
   generalize y_nM : @nM = x_nM at *
   generalize y_mtC : @mtC = x_mtC at *
   generalize y_nMt : @nMt = x_nMt at *
   (repeat' first | ((first | with_reducible refine tr_cut (fun h => ?_) (fun h => ?_) | refine aw_condj (by cbv) (fun h => ?_) (fun h => ?_)) <;> (try simp (disch := omega) only [hj, std, cmpI, cmpB, satB, Bool.not_eq_true, Bool.not_eq_false, decide_eq_true_eq, decide_eq_false_iff_not, beq_iff_eq, bne_iff_ne, bne_eq_false_iff_eq, beq_eq_false_iff_ne, ne_eq, reduceCtorEq, not_true_eq_false, not_false_eq_true, pl0, if_true, cmpS_eq, cmpS_neq, Bool.not_eq_eq_eq_not, Bool.not_true, Bool.not_false, Bool.not_eq_true', Int.ofNat_eq_natCast, add64, sub64] at h) <;> (try (exfalso; omega))) | (with_reducible refine tr_alt (fun h => ?_) ?_ <;> (try (exfalso; omega))) | (with_reducible first | refine tr_ob ?_ ?_ | refine tr_done ?_) | (refine aw_tr hj tok (bookM2 x_fewC x_valC x_outC x_goC) (by cbv) ?_) | (refine aw_seq fun K hK => ?_) | (refine aw_tr1 hj tok (bookM2 x_fewC x_valC x_outC x_goC) (by cbv) ?_) | (refine aw_skip ?_) | (refine aw_block ?_) | (refine aw_exit ?_) | (refine aw_ret ⟨.inr rfl, ret_okj hj (by cbv) ?_ ?_⟩) | (refine aw_ret ?_) | (with_reducible first | refine th_n ?_ | refine th_r ?_ | refine th_x ?_ | refine blk_n ?_ | refine blk_r ?_ | refine blk_x ?_ | refine blk_y rfl ?_) | (refine ⟨.inr rfl, ret_okj hj (by cbv) ?_ ?_⟩) | (refine ⟨.inl rfl, ret_okj hj (by cbv) ?_ ?_⟩) | (with_reducible first | refine ⟨(_, _, _, _), by cbv, ?_, ?_⟩ | refine ⟨(_, _, _), by cbv, ?_, ?_⟩ | refine ⟨_, by cbv, ?_, ?_⟩) | (with_reducible apply_assumption -symm -exfalso only [*]))
   all_goals ((try subst y_fewC); (try subst y_valC); (try subst y_outC); (try subst y_goC); (try subst y_bC); (try subst y_nB); (try subst y_mC); (try subst y_nM); (try subst y_mtC); (try subst y_nMt))
   all_goals (try (repeat' first | with_reducible exact obl0 | (with_reducible refine obl1 ?_ ?_)))
   all_goals (try first | with_reducible exact True.intro | ((first | refine ob_pc hj ?_ | refine ob_pcn hj ?_); (try rw [hj]); first | exact c1 | exact c2) | ((first | refine ob_le hj ?_ | refine ob_lei hj ?_ | refine ob_inb hj ?_ | refine ob_pos hj ?_ | refine ob_ne0 hj ?_ | refine ob_eqb hj ?_); (first | rfl | first | omega | (simp only [hj, std]; split <;> omega) | (simp (disch := omega) only [hj, std, cmpI, cmpB, satB, add64, sub64, ite0, pl0, pl2, pl3, sb0, if_true, if_false, eq_self, lD] <;> omega) | (simp (disch := omega) [hj, std, cmpI, cmpB, satB, add64, sub64, ite0, pl0, pl2, pl3, sb0, if_true, if_false, eq_self, lD] <;> omega))) | ((simp (disch := omega) only [hj, std, add64, ite0, o1, o2, hdn]; first | omega | exact ⟨by omega, by omega, by trivial, _, hset, by rw [List.length_set]; exact hrl, hnq⟩)))
  ·have hr : r = rwAt (ap0 a b) i.toNat := by
    have hl2 := hr0.2 i.toNat (by omega)
    apply List.ext_getElem (by omega)
    intro q h1 h2
    have := hrq q (by omega)
    show r[q] = _
    have e1 : bAt r q = r[q] := by show r.getD q false = _; rw [List.getD_eq_getElem?_getD, List.getElem?_eq_getElem h1]; rfl
    have e2 : xAt (ap0 a b) i.toNat q = (rwAt (ap0 a b) i.toNat)[q] := by show (rwAt (ap0 a b) i.toNat).getD q false = _; rw [List.getD_eq_getElem?_getD, List.getElem?_eq_getElem h2]; rfl
    rw [← e1, this, e2]
   have hnx : X ++ [r] = (ap0 a b).take (i.toNat + 1) := by
    have h3 : i.toNat < (ap0 a b).length := by rw [hr0.1]; omega
    rw [List.take_succ_eq_append_getElem h3, ← hX, hr]
    unfold rwAt; rw [List.getD_eq_getElem?_getD, List.getElem?_eq_getElem h3]; rfl
   have happ : mtC X ++ [.sl (nM b + 1) D] = mtC (X ++ [r]) := by rw [hD, ← mtC_snoc, nB_eq, hrl]
   have hlen : nMt X + 1 = nMt (X ++ [r]) := by rw [nMt_eq, nMt_eq, List.length_append]; rfl
   rw [← f1] at hnx
   clear hrow oa ob ga gb' cOa cOb cGa cGb
   generalize y_fewC : @fewC = x_fewC at *
   generalize y_valC : @valC = x_valC at *
   generalize y_outC : @outC = x_outC at *
   generalize y_goC : @goC = x_goC at *
   generalize y_bC : @bC = x_bC at *
   generalize y_nB : @nB = x_nB at *
   generalize y_mC : @mC = x_mC at *
   generalize y_nM : @nM = x_nM at *
   generalize y_mtC : @mtC = x_mtC at *
   generalize y_nMt : @nMt = x_nMt at *
   (repeat' first | ((first | with_reducible refine tr_cut (fun h => ?_) (fun h => ?_) | refine aw_condj (by cbv) (fun h => ?_) (fun h => ?_)) <;> (try simp (disch := omega) only [hj, std, cmpI, cmpB, satB, Bool.not_eq_true, Bool.not_eq_false, decide_eq_true_eq, decide_eq_false_iff_not, beq_iff_eq, bne_iff_ne, bne_eq_false_iff_eq, beq_eq_false_iff_ne, ne_eq, reduceCtorEq, not_true_eq_false, not_false_eq_true, pl0, if_true, cmpS_eq, cmpS_neq, Bool.not_eq_eq_eq_not, Bool.not_true, Bool.not_false, Bool.not_eq_true', Int.ofNat_eq_natCast, add64, sub64] at h) <;> (try (exfalso; omega))) | (with_reducible refine tr_alt (fun h => ?_) ?_ <;> (try (exfalso; omega))) | (with_reducible first | refine tr_ob ?_ ?_ | refine tr_done ?_) | (refine aw_tr hj tok (bookM2 x_fewC x_valC x_outC x_goC) (by cbv) ?_) | (refine aw_seq fun K hK => ?_) | (refine aw_tr1 hj tok (bookM2 x_fewC x_valC x_outC x_goC) (by cbv) ?_) | (refine aw_skip ?_) | (refine aw_block ?_) | (refine aw_exit ?_) | (refine aw_ret ⟨.inr rfl, ret_okj hj (by cbv) ?_ ?_⟩) | (refine aw_ret ?_) | (with_reducible first | refine th_n ?_ | refine th_r ?_ | refine th_x ?_ | refine blk_n ?_ | refine blk_r ?_ | refine blk_x ?_ | refine blk_y rfl ?_) | (refine ⟨.inr rfl, ret_okj hj (by cbv) ?_ ?_⟩) | (refine ⟨.inl rfl, ret_okj hj (by cbv) ?_ ?_⟩) | (with_reducible first | refine ⟨(_, _, _, _), by cbv, ?_, ?_⟩ | refine ⟨(_, _, _), by cbv, ?_, ?_⟩ | refine ⟨_, by cbv, ?_, ?_⟩) | (with_reducible apply_assumption -symm -exfalso only [*]))
   all_goals ((try subst y_fewC); (try subst y_valC); (try subst y_outC); (try subst y_goC); (try subst y_bC); (try subst y_nB); (try subst y_mC); (try subst y_nM); (try subst y_mtC); (try subst y_nMt))
   all_goals (try (repeat' first | with_reducible exact obl0 | (with_reducible refine obl1 ?_ ?_)))
   all_goals (try first | with_reducible exact True.intro | ((first | refine ob_le hj ?_ | refine ob_lei hj ?_ | refine ob_inb hj ?_ | refine ob_pos hj ?_ | refine ob_ne0 hj ?_ | refine ob_eqb hj ?_); (first | rfl | first | omega | (simp only [hj, std]; split <;> omega) | (simp (disch := omega) only [hj, std, cmpI, cmpB, satB, add64, sub64, ite0, pl0, pl2, pl3, sb0, if_true, if_false, eq_self, lD, lX, nX] <;> omega) | (simp (disch := omega) [hj, std, cmpI, cmpB, satB, add64, sub64, ite0, pl0, pl2, pl3, sb0, if_true, if_false, eq_self, lD, lX, nX] <;> omega))) | ((simp (disch := omega) only [hj, std, add64, ite0]; first | omega | exact ⟨by omega, by omega, X ++ [r], hlen, happ, hnx⟩)))
 ·have hXe : X = ap0 a b := by rw [hX, List.take_of_length_le (by rw [hr0.1]; omega)]
  clear hX hrow
  subst hXe
  generalize y_fewC : @fewC = x_fewC at *
  generalize y_valC : @valC = x_valC at *
  generalize y_outC : @outC = x_outC at *
  generalize y_goC : @goC = x_goC at *
  generalize y_bC : @bC = x_bC at *
  generalize y_nB : @nB = x_nB at *
  generalize y_mC : @mC = x_mC at *
  generalize y_nM : @nM = x_nM at *
  generalize y_mtC : @mtC = x_mtC at *
  generalize y_nMt : @nMt = x_nMt at *
  (repeat' first | ((first | with_reducible refine tr_cut (fun h => ?_) (fun h => ?_) | refine aw_condj (by cbv) (fun h => ?_) (fun h => ?_)) <;> (try simp (disch := omega) only [hj, std, cmpI, cmpB, satB, Bool.not_eq_true, Bool.not_eq_false, decide_eq_true_eq, decide_eq_false_iff_not, beq_iff_eq, bne_iff_ne, bne_eq_false_iff_eq, beq_eq_false_iff_ne, ne_eq, reduceCtorEq, not_true_eq_false, not_false_eq_true, pl0, if_true, cmpS_eq, cmpS_neq, Bool.not_eq_eq_eq_not, Bool.not_true, Bool.not_false, Bool.not_eq_true', Int.ofNat_eq_natCast, add64, sub64] at h) <;> (try (exfalso; omega))) | (with_reducible refine tr_alt (fun h => ?_) ?_ <;> (try (exfalso; omega))) | (with_reducible first | refine tr_ob ?_ ?_ | refine tr_done ?_) | (refine aw_tr hj tok (bookM2 x_fewC x_valC x_outC x_goC) (by cbv) ?_) | (refine aw_seq fun K hK => ?_) | (refine aw_tr1 hj tok (bookM2 x_fewC x_valC x_outC x_goC) (by cbv) ?_) | (refine aw_skip ?_) | (refine aw_block ?_) | (refine aw_exit ?_) | (refine aw_ret ⟨.inr rfl, ret_okj hj (by cbv) ?_ ?_⟩) | (refine aw_ret ?_) | (with_reducible first | refine th_n ?_ | refine th_r ?_ | refine th_x ?_ | refine blk_n ?_ | refine blk_r ?_ | refine blk_x ?_ | refine blk_y rfl ?_) | (refine ⟨.inr rfl, ret_okj hj (by cbv) ?_ ?_⟩) | (refine ⟨.inl rfl, ret_okj hj (by cbv) ?_ ?_⟩) | (with_reducible first | refine ⟨(_, _, _, _), by cbv, ?_, ?_⟩ | refine ⟨(_, _, _), by cbv, ?_, ?_⟩ | refine ⟨_, by cbv, ?_, ?_⟩) | (with_reducible apply_assumption -symm -exfalso only [*]))
  all_goals ((try subst y_fewC); (try subst y_valC); (try subst y_outC); (try subst y_goC); (try subst y_bC); (try subst y_nB); (try subst y_mC); (try subst y_nM); (try subst y_mtC); (try subst y_nMt))
  all_goals (try (repeat' first | with_reducible exact obl0 | (with_reducible refine obl1 ?_ ?_)))
  all_goals (try first | with_reducible exact True.intro | ((first | refine ob_le hj ?_ | refine ob_lei hj ?_ | refine ob_inb hj ?_ | refine ob_pos hj ?_ | refine ob_ne0 hj ?_ | refine ob_eqb hj ?_); (first | rfl | first | omega | (simp only [hj, std]; split <;> omega) | (simp (disch := omega) only [hj, std, cmpI, cmpB, satB, add64, sub64, ite0, pl0, pl2, pl3, sb0, if_true, if_false, eq_self] <;> omega) | (simp (disch := omega) [hj, std, cmpI, cmpB, satB, add64, sub64, ite0, pl0, pl2, pl3, sb0, if_true, if_false, eq_self] <;> omega))))
  clear hi hXl nX lX i1 i2 hr0 oa ob cOa cOb
  refine aw_lpj hj [(0, .keep), (1, .keep), (2, .keep), (7, .tree shX), (11, .keep)] [] (fun (⟨m, cs, mo⟩ : Nat × (List C) × Bool) => stOf 105 [(0, .one (.c (.sl (nM a) (mC a)))), (1, .one (.c (.sl (nM b) (mC b)))), (2, .one (.c (vI n))), (7, .one (.tv 7 0 [])), (11, .one (.c (vB mo)))] [(7, .loose [.tree shX ((.sl m cs)) none])]) (fun (⟨m, cs, mo⟩ : Nat × (List C) × Bool) => (if mo = true then (a.length + 1) * (b.length + 1) + 1 - cntX (rwsOf cs) else 0)) (fun (⟨m, cs, mo⟩ : Nat × (List C) × Bool) => ∃ X d, m = nMt X ∧ cs = mtC X ∧ X = apIt a b n d ∧ (mo = true → d ≤ cntX X) ∧ (mo = false → apF a b n = X)) ((nMt (ap0 a b), mtC (ap0 a b), true)) (by generalize @fewC = x_fewC; generalize @valC = x_valC; generalize @outC = x_outC; generalize @goC = x_goC; generalize @bC = x_bC; generalize @nB = x_nB; generalize @mC = x_mC; generalize @nM = x_nM; generalize @mtC = x_mtC; generalize @nMt = x_nMt; cbv) ?_ (fun ⟨m, cs, mo⟩ hI => ?_)
  ·exact ⟨ap0 a b, 0, rfl, rfl, rfl, fun _ => Nat.zero_le _, fun h => by cases h⟩
  obtain ⟨X, d, rfl, rfl, hXd, hmo, hfin⟩ := hI
  cases mo with
  | false =>
   have hfin := hfin rfl
   generalize y_fewC : @fewC = x_fewC at *
   generalize y_valC : @valC = x_valC at *
   generalize y_outC : @outC = x_outC at *
   generalize y_goC : @goC = x_goC at *
   generalize y_bC : @bC = x_bC at *
   generalize y_nB : @nB = x_nB at *
   generalize y_mC : @mC = x_mC at *
   generalize y_nM : @nM = x_nM at *
   generalize y_mtC : @mtC = x_mtC at *
   generalize y_nMt : @nMt = x_nMt at *
   (repeat' first | ((first | with_reducible refine tr_cut (fun h => ?_) (fun h => ?_) | refine aw_condj (by cbv) (fun h => ?_) (fun h => ?_)) <;> (try simp (disch := omega) only [hj, std, cmpI, cmpB, satB, Bool.not_eq_true, Bool.not_eq_false, decide_eq_true_eq, decide_eq_false_iff_not, beq_iff_eq, bne_iff_ne, bne_eq_false_iff_eq, beq_eq_false_iff_ne, ne_eq, reduceCtorEq, not_true_eq_false, not_false_eq_true, pl0, if_true, cmpS_eq, cmpS_neq, Bool.not_eq_eq_eq_not, Bool.not_true, Bool.not_false, Bool.not_eq_true', Int.ofNat_eq_natCast, add64, sub64] at h) <;> (try (exfalso; omega))) | (with_reducible refine tr_alt (fun h => ?_) ?_ <;> (try (exfalso; omega))) | (with_reducible first | refine tr_ob ?_ ?_ | refine tr_done ?_) | (refine aw_tr hj tok (bookM2 x_fewC x_valC x_outC x_goC) (by cbv) ?_) | (refine aw_seq fun K hK => ?_) | (refine aw_tr1 hj tok (bookM2 x_fewC x_valC x_outC x_goC) (by cbv) ?_) | (refine aw_skip ?_) | (refine aw_block ?_) | (refine aw_exit ?_) | (refine aw_ret ⟨.inr rfl, ret_okj hj (by cbv) ?_ ?_⟩) | (refine aw_ret ?_) | (with_reducible first | refine th_n ?_ | refine th_r ?_ | refine th_x ?_ | refine blk_n ?_ | refine blk_r ?_ | refine blk_x ?_ | refine blk_y rfl ?_) | (refine ⟨.inr rfl, ret_okj hj (by cbv) ?_ ?_⟩) | (refine ⟨.inl rfl, ret_okj hj (by cbv) ?_ ?_⟩) | (with_reducible first | refine ⟨(_, _, _, _), by cbv, ?_, ?_⟩ | refine ⟨(_, _, _), by cbv, ?_, ?_⟩ | refine ⟨_, by cbv, ?_, ?_⟩) | (with_reducible apply_assumption -symm -exfalso only [*]))
   all_goals ((try subst y_fewC); (try subst y_valC); (try subst y_outC); (try subst y_goC); (try subst y_bC); (try subst y_nB); (try subst y_mC); (try subst y_nM); (try subst y_mtC); (try subst y_nMt))
   all_goals (try (repeat' first | with_reducible exact obl0 | (with_reducible refine obl1 ?_ ?_)))
   all_goals (try first | with_reducible exact True.intro | ((first | refine ob_le hj ?_ | refine ob_lei hj ?_ | refine ob_inb hj ?_ | refine ob_pos hj ?_ | refine ob_ne0 hj ?_ | refine ob_eqb hj ?_); (first | rfl | first | omega | (simp only [hj, std]; split <;> omega) | (simp (disch := omega) only [hj, std, cmpI, cmpB, satB, add64, sub64, ite0, pl0, pl2, pl3, sb0, if_true, if_false, eq_self] <;> omega) | (simp (disch := omega) [hj, std, cmpI, cmpB, satB, add64, sub64, ite0, pl0, pl2, pl3, sb0, if_true, if_false, eq_self] <;> omega))) | ((refine (ret1_c ?_).symm; rw [hfin])))
  | true =>
   have hdc := hmo rfl
   have hRX : Rect (a.length + 1) (b.length + 1) X := by rw [hXd]; exact apIt_rect a b n d
   have hcl := cntX_le hRX
   have hP := apR_pass a b n X
   have hE0 : ∀ s, s = apR a b n X → s.1 = apIt a b n (d + 1) ∧ (s.2 = true → d + 1 ≤ cntX s.1 ∧ cntX X < cntX s.1) ∧ (s.2 = false → apF a b n = s.1) := fun s hs => by
    have h1 : s.1 = apIt a b n (d + 1) := by rw [hs, hXd]; rfl
    refine ⟨h1, fun h => ?_, fun h => ?_⟩
    ·have := hP.rise hRX rfl (by rw [← hs]; exact h)
     rw [← hs] at this
     exact ⟨by have : cntX X < cntX s.1 := this; omega, this⟩
    ·have h2 := hP.same (by rw [← hs]; exact h)
     rw [← hs] at h2
     have h2 : s.1 = X := h2
     rw [h2, hXd]
     exact apF_of (by rw [← hXd, ← hs]; exact h) (by omega)
   have hRr : apR a b n X = (List.range (a.length + 1)).foldl (apI a b n) (X, false) := rfl
   generalize apR a b n X = Z at hE0 hRr
   clear hmo hfin hP
   generalize y_fewC : @fewC = x_fewC at *
   generalize y_valC : @valC = x_valC at *
   generalize y_outC : @outC = x_outC at *
   generalize y_goC : @goC = x_goC at *
   generalize y_bC : @bC = x_bC at *
   generalize y_nB : @nB = x_nB at *
   generalize y_mC : @mC = x_mC at *
   generalize y_nM : @nM = x_nM at *
   generalize y_mtC : @mtC = x_mtC at *
   generalize y_nMt : @nMt = x_nMt at *
   (repeat' first | ((first | with_reducible refine tr_cut (fun h => ?_) (fun h => ?_) | refine aw_condj (by cbv) (fun h => ?_) (fun h => ?_)) <;> (try simp (disch := omega) only [hj, std, cmpI, cmpB, satB, Bool.not_eq_true, Bool.not_eq_false, decide_eq_true_eq, decide_eq_false_iff_not, beq_iff_eq, bne_iff_ne, bne_eq_false_iff_eq, beq_eq_false_iff_ne, ne_eq, reduceCtorEq, not_true_eq_false, not_false_eq_true, pl0, if_true, cmpS_eq, cmpS_neq, Bool.not_eq_eq_eq_not, Bool.not_true, Bool.not_false, Bool.not_eq_true', Int.ofNat_eq_natCast, add64, sub64] at h) <;> (try (exfalso; omega))) | (with_reducible refine tr_alt (fun h => ?_) ?_ <;> (try (exfalso; omega))) | (with_reducible first | refine tr_ob ?_ ?_ | refine tr_done ?_) | (refine aw_tr hj tok (bookM2 x_fewC x_valC x_outC x_goC) (by cbv) ?_) | (refine aw_seq fun K hK => ?_) | (refine aw_tr1 hj tok (bookM2 x_fewC x_valC x_outC x_goC) (by cbv) ?_) | (refine aw_skip ?_) | (refine aw_block ?_) | (refine aw_exit ?_) | (refine aw_ret ⟨.inr rfl, ret_okj hj (by cbv) ?_ ?_⟩) | (refine aw_ret ?_) | (with_reducible first | refine th_n ?_ | refine th_r ?_ | refine th_x ?_ | refine blk_n ?_ | refine blk_r ?_ | refine blk_x ?_ | refine blk_y rfl ?_) | (refine ⟨.inr rfl, ret_okj hj (by cbv) ?_ ?_⟩) | (refine ⟨.inl rfl, ret_okj hj (by cbv) ?_ ?_⟩) | (with_reducible first | refine ⟨(_, _, _, _), by cbv, ?_, ?_⟩ | refine ⟨(_, _, _), by cbv, ?_, ?_⟩ | refine ⟨_, by cbv, ?_, ?_⟩) | (with_reducible apply_assumption -symm -exfalso only [*]))
   all_goals ((try subst y_fewC); (try subst y_valC); (try subst y_outC); (try subst y_goC); (try subst y_bC); (try subst y_nB); (try subst y_mC); (try subst y_nM); (try subst y_mtC); (try subst y_nMt))
   all_goals (try (repeat' first | with_reducible exact obl0 | (with_reducible refine obl1 ?_ ?_)))
   all_goals (try first | with_reducible exact True.intro | ((first | refine ob_le hj ?_ | refine ob_lei hj ?_ | refine ob_inb hj ?_ | refine ob_pos hj ?_ | refine ob_ne0 hj ?_ | refine ob_eqb hj ?_); (first | rfl | first | omega | (simp only [hj, std]; split <;> omega) | (simp (disch := omega) only [hj, std, cmpI, cmpB, satB, add64, sub64, ite0, pl0, pl2, pl3, sb0, if_true, if_false, eq_self] <;> omega) | (simp (disch := omega) [hj, std, cmpI, cmpB, satB, add64, sub64, ite0, pl0, pl2, pl3, sb0, if_true, if_false, eq_self] <;> omega))))
   refine aw_lpj hj [(0, .keep), (1, .keep), (2, .keep), (7, .tree shX), (11, .keep), (12, .keep)] [] (fun (⟨i, m, cs, mo⟩ : Int × Nat × (List C) × Bool) => stOf 105 [(0, .one (.c (.sl (nM a) (mC a)))), (1, .one (.c (.sl (nM b) (mC b)))), (2, .one (.c (vI n))), (7, .one (.tv 7 0 [])), (11, .one (.c (vB mo))), (12, .one (.c (vI i)))] [(7, .loose [.tree shX ((.sl m cs)) none])]) (fun (⟨i, m, cs, mo⟩ : Int × Nat × (List C) × Bool) => nM a + 1 - i.toNat) (fun (⟨i, m, cs, mo⟩ : Int × Nat × (List C) × Bool) => 0 ≤ i ∧ i ≤ nM a + 1 ∧ ∃ s : List (List Bool) × Bool, m = nMt s.1 ∧ cs = mtC s.1 ∧ mo = s.2 ∧ s = (List.range i.toNat).foldl (apI a b n) (X, false) ∧ Rect (a.length + 1) (b.length + 1) s.1) ((0, nMt X, mtC X, false)) (by generalize @fewC = x_fewC; generalize @valC = x_valC; generalize @outC = x_outC; generalize @goC = x_goC; generalize @bC = x_bC; generalize @nB = x_nB; generalize @mC = x_mC; generalize @nM = x_nM; generalize @mtC = x_mtC; generalize @nMt = x_nMt; cbv) ?_ (fun ⟨i, m, cs, mo⟩ hI => ?_)
   ·exact ⟨by omega, by omega, (X, false), rfl, rfl, rfl, rfl, hRX⟩
   obtain ⟨i1, i2, s, rfl, rfl, rfl, hs, hRs⟩ := hI
   rcases Decidable.em (i ≤ (nM a : Int)) with hi | hi
   ·have f1 : (i + 1).toNat = i.toNat + 1 := by omega
    have hnx : apI a b n s i.toNat = (List.range (i + 1).toNat).foldl (apI a b n) (X, false) := by rw [f1, List.range_succ, List.foldl_append, ← hs]; rfl
    have hIr : apI a b n s i.toNat = (List.range (b.length + 1)).foldl (apK a b n i.toNat) s := rfl
    have hIp : Rect (a.length + 1) (b.length + 1) (apI a b n s i.toNat).1 := (apI_pass (by omega) s).rect hRs
    generalize apI a b n s i.toNat = Y at hnx hIr hIp
    clear hE0 hRr hs
    generalize y_fewC : @fewC = x_fewC at *
    generalize y_valC : @valC = x_valC at *
    generalize y_outC : @outC = x_outC at *
    generalize y_goC : @goC = x_goC at *
    generalize y_bC : @bC = x_bC at *
    generalize y_nB : @nB = x_nB at *
    generalize y_mC : @mC = x_mC at *
    generalize y_nM : @nM = x_nM at *
    generalize y_mtC : @mtC = x_mtC at *
    generalize y_nMt : @nMt = x_nMt at *
    (repeat' first | ((first | with_reducible refine tr_cut (fun h => ?_) (fun h => ?_) | refine aw_condj (by cbv) (fun h => ?_) (fun h => ?_)) <;> (try simp (disch := omega) only [hj, std, cmpI, cmpB, satB, Bool.not_eq_true, Bool.not_eq_false, decide_eq_true_eq, decide_eq_false_iff_not, beq_iff_eq, bne_iff_ne, bne_eq_false_iff_eq, beq_eq_false_iff_ne, ne_eq, reduceCtorEq, not_true_eq_false, not_false_eq_true, pl0, if_true, cmpS_eq, cmpS_neq, Bool.not_eq_eq_eq_not, Bool.not_true, Bool.not_false, Bool.not_eq_true', Int.ofNat_eq_natCast, add64, sub64] at h) <;> (try (exfalso; omega))) | (with_reducible refine tr_alt (fun h => ?_) ?_ <;> (try (exfalso; omega))) | (with_reducible first | refine tr_ob ?_ ?_ | refine tr_done ?_) | (refine aw_tr hj tok (bookM2 x_fewC x_valC x_outC x_goC) (by cbv) ?_) | (refine aw_seq fun K hK => ?_) | (refine aw_tr1 hj tok (bookM2 x_fewC x_valC x_outC x_goC) (by cbv) ?_) | (refine aw_skip ?_) | (refine aw_block ?_) | (refine aw_exit ?_) | (refine aw_ret ⟨.inr rfl, ret_okj hj (by cbv) ?_ ?_⟩) | (refine aw_ret ?_) | (with_reducible first | refine th_n ?_ | refine th_r ?_ | refine th_x ?_ | refine blk_n ?_ | refine blk_r ?_ | refine blk_x ?_ | refine blk_y rfl ?_) | (refine ⟨.inr rfl, ret_okj hj (by cbv) ?_ ?_⟩) | (refine ⟨.inl rfl, ret_okj hj (by cbv) ?_ ?_⟩) | (with_reducible first | refine ⟨(_, _, _, _), by cbv, ?_, ?_⟩ | refine ⟨(_, _, _), by cbv, ?_, ?_⟩ | refine ⟨_, by cbv, ?_, ?_⟩) | (with_reducible apply_assumption -symm -exfalso only [*]))
    all_goals ((try subst y_fewC); (try subst y_valC); (try subst y_outC); (try subst y_goC); (try subst y_bC); (try subst y_nB); (try subst y_mC); (try subst y_nM); (try subst y_mtC); (try subst y_nMt))
    all_goals (try (repeat' first | with_reducible exact obl0 | (with_reducible refine obl1 ?_ ?_)))
    all_goals (try first | with_reducible exact True.intro | ((first | refine ob_le hj ?_ | refine ob_lei hj ?_ | refine ob_inb hj ?_ | refine ob_pos hj ?_ | refine ob_ne0 hj ?_ | refine ob_eqb hj ?_); (first | rfl | first | omega | (simp only [hj, std]; split <;> omega) | (simp (disch := omega) only [hj, std, cmpI, cmpB, satB, add64, sub64, ite0, pl0, pl2, pl3, sb0, if_true, if_false, eq_self] <;> omega) | (simp (disch := omega) [hj, std, cmpI, cmpB, satB, add64, sub64, ite0, pl0, pl2, pl3, sb0, if_true, if_false, eq_self] <;> omega))))
    refine aw_lpj hj [(0, .keep), (1, .keep), (2, .keep), (7, .tree shX), (11, .keep), (12, .keep), (13, .keep)] [] (fun (⟨k, m, cs, mo⟩ : Int × Nat × (List C) × Bool) => stOf 105 [(0, .one (.c (.sl (nM a) (mC a)))), (1, .one (.c (.sl (nM b) (mC b)))), (2, .one (.c (vI n))), (7, .one (.tv 7 0 [])), (11, .one (.c (vB mo))), (12, .one (.c (vI i))), (13, .one (.c (vI k)))] [(7, .loose [.tree shX ((.sl m cs)) none])]) (fun (⟨k, m, cs, mo⟩ : Int × Nat × (List C) × Bool) => nM b + 1 - k.toNat) (fun (⟨k, m, cs, mo⟩ : Int × Nat × (List C) × Bool) => 0 ≤ k ∧ k ≤ nM b + 1 ∧ ∃ u : List (List Bool) × Bool, m = nMt u.1 ∧ cs = mtC u.1 ∧ mo = u.2 ∧ u = (List.range k.toNat).foldl (apK a b n i.toNat) s ∧ Rect (a.length + 1) (b.length + 1) u.1) ((0, nMt s.1, mtC s.1, s.2)) (by generalize @fewC = x_fewC; generalize @valC = x_valC; generalize @outC = x_outC; generalize @goC = x_goC; generalize @bC = x_bC; generalize @nB = x_nB; generalize @mC = x_mC; generalize @nM = x_nM; generalize @mtC = x_mtC; generalize @nMt = x_nMt; cbv) ?_ (fun ⟨k, m, cs, mo⟩ hI => ?_)
    ·exact ⟨by omega, by omega, s, rfl, rfl, rfl, rfl, hRs⟩
    obtain ⟨k1, k2, u, rfl, rfl, rfl, hu, hRu⟩ := hI
    rcases Decidable.em (k ≤ (nM b : Int)) with hk | hk
    ·have f2 : (k + 1).toNat = k.toNat + 1 := by omega
     have hnk : apK a b n i.toNat u k.toNat = (List.range (k + 1).toNat).foldl (apK a b n i.toNat) s := by rw [f2, List.range_succ, List.foldl_append, ← hu]; rfl
     have hKp : Rect (a.length + 1) (b.length + 1) (apK a b n i.toNat u k.toNat).1 := (apK_pass (by omega) (by omega) u).rect hRu
     have hKs := @apK_stop a b n i.toNat k.toNat
     have hKr : apK a b n i.toNat u k.toNat = (List.range n).foldl (apT a b i.toNat k.toNat) u := rfl
     have hKs := fun t s => @hKs t s u
     generalize apK a b n i.toNat u k.toNat = V at hnk hKp hKs hKr
     clear hnx hIr hIp hu
     generalize y_fewC : @fewC = x_fewC at *
     generalize y_valC : @valC = x_valC at *
     generalize y_outC : @outC = x_outC at *
     generalize y_goC : @goC = x_goC at *
     generalize y_bC : @bC = x_bC at *
     generalize y_nB : @nB = x_nB at *
     generalize y_mC : @mC = x_mC at *
     generalize y_nM : @nM = x_nM at *
     generalize y_mtC : @mtC = x_mtC at *
     generalize y_nMt : @nMt = x_nMt at *
     (repeat' first | ((first | with_reducible refine tr_cut (fun h => ?_) (fun h => ?_) | refine aw_condj (by cbv) (fun h => ?_) (fun h => ?_)) <;> (try simp (disch := omega) only [hj, std, cmpI, cmpB, satB, Bool.not_eq_true, Bool.not_eq_false, decide_eq_true_eq, decide_eq_false_iff_not, beq_iff_eq, bne_iff_ne, bne_eq_false_iff_eq, beq_eq_false_iff_ne, ne_eq, reduceCtorEq, not_true_eq_false, not_false_eq_true, pl0, if_true, cmpS_eq, cmpS_neq, Bool.not_eq_eq_eq_not, Bool.not_true, Bool.not_false, Bool.not_eq_true', Int.ofNat_eq_natCast, add64, sub64] at h) <;> (try (exfalso; omega))) | (with_reducible refine tr_alt (fun h => ?_) ?_ <;> (try (exfalso; omega))) | (with_reducible first | refine tr_ob ?_ ?_ | refine tr_done ?_) | (refine aw_tr hj tok (bookM2 x_fewC x_valC x_outC x_goC) (by cbv) ?_) | (refine aw_seq fun K hK => ?_) | (refine aw_tr1 hj tok (bookM2 x_fewC x_valC x_outC x_goC) (by cbv) ?_) | (refine aw_skip ?_) | (refine aw_block ?_) | (refine aw_exit ?_) | (refine aw_ret ⟨.inr rfl, ret_okj hj (by cbv) ?_ ?_⟩) | (refine aw_ret ?_) | (with_reducible first | refine th_n ?_ | refine th_r ?_ | refine th_x ?_ | refine blk_n ?_ | refine blk_r ?_ | refine blk_x ?_ | refine blk_y rfl ?_) | (refine ⟨.inr rfl, ret_okj hj (by cbv) ?_ ?_⟩) | (refine ⟨.inl rfl, ret_okj hj (by cbv) ?_ ?_⟩) | (with_reducible first | refine ⟨(_, _, _, _), by cbv, ?_, ?_⟩ | refine ⟨(_, _, _), by cbv, ?_, ?_⟩ | refine ⟨_, by cbv, ?_, ?_⟩) | (with_reducible apply_assumption -symm -exfalso only [*]))
     all_goals ((try subst y_fewC); (try subst y_valC); (try subst y_outC); (try subst y_goC); (try subst y_bC); (try subst y_nB); (try subst y_mC); (try subst y_nM); (try subst y_mtC); (try subst y_nMt))
     all_goals (try (repeat' first | with_reducible exact obl0 | (with_reducible refine obl1 ?_ ?_)))
     all_goals (try first | with_reducible exact True.intro | ((first | refine ob_le hj ?_ | refine ob_lei hj ?_ | refine ob_inb hj ?_ | refine ob_pos hj ?_ | refine ob_ne0 hj ?_ | refine ob_eqb hj ?_); (first | rfl | first | omega | (simp only [hj, std]; split <;> omega) | (simp (disch := omega) only [hj, std, cmpI, cmpB, satB, add64, sub64, ite0, pl0, pl2, pl3, sb0, if_true, if_false, eq_self] <;> omega) | (simp (disch := omega) [hj, std, cmpI, cmpB, satB, add64, sub64, ite0, pl0, pl2, pl3, sb0, if_true, if_false, eq_self] <;> omega))))
     refine aw_lpj hj [(0, .keep), (1, .keep), (2, .keep), (7, .tree shX), (11, .keep), (12, .keep), (13, .keep), (14, .keep)] [] (fun (⟨t, m, cs, mo⟩ : Int × Nat × (List C) × Bool) => stOf 105 [(0, .one (.c (.sl (nM a) (mC a)))), (1, .one (.c (.sl (nM b) (mC b)))), (2, .one (.c (vI n))), (7, .one (.tv 7 0 [])), (11, .one (.c (vB mo))), (12, .one (.c (vI i))), (13, .one (.c (vI k))), (14, .one (.c (vI t)))] [(7, .loose [.tree shX ((.sl m cs)) none])]) (fun (⟨t, m, cs, mo⟩ : Int × Nat × (List C) × Bool) => n - t.toNat) (fun (⟨t, m, cs, mo⟩ : Int × Nat × (List C) × Bool) => 0 ≤ t ∧ t ≤ n ∧ ∃ v : List (List Bool) × Bool, m = nMt v.1 ∧ cs = mtC v.1 ∧ mo = v.2 ∧ v = (List.range t.toNat).foldl (apT a b i.toNat k.toNat) u ∧ Rect (a.length + 1) (b.length + 1) v.1) ((0, nMt u.1, mtC u.1, u.2)) (by generalize @fewC = x_fewC; generalize @valC = x_valC; generalize @outC = x_outC; generalize @goC = x_goC; generalize @bC = x_bC; generalize @nB = x_nB; generalize @mC = x_mC; generalize @nM = x_nM; generalize @mtC = x_mtC; generalize @nMt = x_nMt; cbv) ?_ (fun ⟨t, m, cs, mo⟩ hI => ?_)
     ·exact ⟨by omega, by omega, u, rfl, rfl, rfl, rfl, hRu⟩
     obtain ⟨t1, t2, v, rfl, rfl, rfl, hv, hRv⟩ := hI
     have nv := nMt_eq v.1
     have lv := mtC_len v.1
     have hvl := hRv.1
     have hci := mtC_cell (l := v.1) (k := i.toNat) (by omega)
     have hri := hRv.2 i.toNat (by omega)
     have w1 : gn (cellAt (mtC v.1) i.toNat) = nB (rwAt v.1 i.toNat) := by rw [hci]; rfl
     have w2 : gc (cellAt (mtC v.1) i.toNat) = bC (rwAt v.1 i.toNat) := by rw [hci]; rfl
     have w3 : gb (cellAt (bC (rwAt v.1 i.toNat)) k.toNat) = xAt v.1 i.toNat k.toNat := gb_bC _ _
     have hoi : okK .bool (cellAt (bC (rwAt v.1 i.toNat)) k.toNat) := ok_bC (by omega)
     have nri := nB_eq (rwAt v.1 i.toNat)
     have lri := bC_len (rwAt v.1 i.toNat)
     have f3 : (t + 1).toNat = t.toNat + 1 := by omega
     rcases Decidable.em (t < (n : Int) ∧ xAt v.1 i.toNat k.toNat = false) with htx | htx
     ·obtain ⟨ht, hx⟩ := htx
      have hnt : apT a b i.toNat k.toNat v t.toNat = (List.range (t + 1).toNat).foldl (apT a b i.toNat k.toNat) u := by rw [f3, List.range_succ, List.foldl_append, ← hv]; rfl
      have hTp := (apT_pass (by omega) (by omega) v t.toNat : Pass (a.length + 1) (b.length + 1) v (apT a b i.toNat k.toNat v t.toNat)).rect hRv
      have hT : apT a b i.toNat k.toNat v t.toNat = if xAt v.1 (plM a (goM a i t)) (plM b (goM b k t)) = true then (xSet v.1 i.toNat k.toNat, true) else v := by
       unfold apT
       rw [if_neg (by rw [hx]; decide), show ((i.toNat : Nat) : Int) = i by omega, show ((k.toNat : Nat) : Int) = k by omega, show ((t.toNat : Nat) : Int) = t by omega]
      generalize apT a b i.toNat k.toNat v t.toNat = v9 at hnt hTp hT
      have hga := ga i t
      have hgb := gb' k t
      have hla := goM_lt a i t
      have hlb := goM_lt b k t
      have hset : setC (mtC v.1) i.toNat [.sl (nB (rwAt v.1 i.toNat)) (setC (bC (rwAt v.1 i.toNat)) k.toNat [vB true])] = mtC (xSet v.1 i.toNat k.toNat) := mtC_set1 (by omega) (by omega)
      have hnx2 : nMt (xSet v.1 i.toNat k.toNat) = nMt v.1 := by rw [nMt_eq, nMt_eq]; unfold xSet; rw [List.length_set]
      have cA := cGa i t
      have cB := cGb k t
      have hpx : plM a (goM a i t) = if goM a i t < 0 then nM a else (goM a i t).toNat := by unfold plM; rw [na]
      have hpy : plM b (goM b k t) = if goM b k t < 0 then nM b else (goM b k t).toNat := by unfold plM; rw [nb]
      rw [← hga] at hla hpx hT
      rw [← hgb] at hlb hpy hT
      have hpl : plM a (goC (mC a) i t) < a.length + 1 ∧ plM b (goC (mC b) k t) < b.length + 1 := by
       unfold plM; constructor <;> split <;> omega
      obtain ⟨hp1, hp2⟩ := hpl
      have hcx := mtC_cell (l := v.1) (k := plM a (goC (mC a) i t)) (by omega)
      have hrx := hRv.2 (plM a (goC (mC a) i t)) hp1
      have z1 : gn (cellAt (mtC v.1) (plM a (goC (mC a) i t))) = nB (rwAt v.1 (plM a (goC (mC a) i t))) := by rw [hcx]; rfl
      have z2 : gc (cellAt (mtC v.1) (plM a (goC (mC a) i t))) = bC (rwAt v.1 (plM a (goC (mC a) i t))) := by rw [hcx]; rfl
      have z3 : gb (cellAt (bC (rwAt v.1 (plM a (goC (mC a) i t)))) (plM b (goC (mC b) k t))) = xAt v.1 (plM a (goC (mC a) i t)) (plM b (goC (mC b) k t)) := gb_bC _ _
      have hox : okK .bool (cellAt (bC (rwAt v.1 (plM a (goC (mC a) i t)))) (plM b (goC (mC b) k t))) := ok_bC (by omega)
      have nrx := nB_eq (rwAt v.1 (plM a (goC (mC a) i t)))
      have lrx := bC_len (rwAt v.1 (plM a (goC (mC a) i t)))
      have hyes : xAt v.1 (plM a (goC (mC a) i t)) (plM b (goC (mC b) k t)) = true → v9 = (xSet v.1 i.toNat k.toNat, true) := fun h => by rw [hT, if_pos h]
      have hno : xAt v.1 (plM a (goC (mC a) i t)) (plM b (goC (mC b) k t)) = false → v9 = v := fun h => by rw [hT, if_neg (by rw [h]; decide)]
      clear hT hKs hKr hKp hv ga gb' cGa cGb hnk hga hgb hcl hdc hXd hRX
      generalize xAt v.1 (plM a (goC (mC a) i t)) (plM b (goC (mC b) k t)) = qq at *
      generalize xAt v.1 i.toNat k.toNat = q0 at *
      subst hx
      generalize plM a (goC (mC a) i t) = px at *
      generalize plM b (goC (mC b) k t) = py at *
      rcases Decidable.em ((goC (mC a) i t) < 0) with hgx | hgx <;> rcases Decidable.em ((goC (mC b) k t) < 0) with hgy | hgy
      all_goals
       first | rw [if_pos hgx] at hpx | rw [if_neg hgx] at hpx
       first | rw [if_pos hgy] at hpy | rw [if_neg hgy] at hpy
       subst hpx
       subst hpy
      all_goals
       cases qq
       ·as_aux_lemma =>
         have hv9 := hno rfl
         rw [hv9] at hnt hTp
         clear hno hyes hset hnx2 hv9
         generalize y_fewC : @fewC = x_fewC at *
         generalize y_valC : @valC = x_valC at *
         generalize y_outC : @outC = x_outC at *
         generalize y_goC : @goC = x_goC at *
         generalize y_bC : @bC = x_bC at *
         generalize y_nB : @nB = x_nB at *
         generalize y_mC : @mC = x_mC at *
         generalize y_nM : @nM = x_nM at *
         generalize y_mtC : @mtC = x_mtC at *
         generalize y_nMt : @nMt = x_nMt at *
         (repeat' first | (with_reducible refine ⟨(_, _, _, _), by cbv, ?_, ?_⟩) | ((first | with_reducible refine tr_cut (fun h => ?_) (fun h => ?_) | refine aw_condj (by cbv) (fun h => ?_) (fun h => ?_)) <;> (try simp (disch := omega) only [hj, std, cmpI, cmpB, satB, Bool.not_eq_true, Bool.not_eq_false, decide_eq_true_eq, decide_eq_false_iff_not, beq_iff_eq, bne_iff_ne, bne_eq_false_iff_eq, beq_eq_false_iff_ne, ne_eq, reduceCtorEq, not_true_eq_false, not_false_eq_true, pl0, if_true, cmpS_eq, cmpS_neq, Bool.not_eq_eq_eq_not, Bool.not_true, Bool.not_false, Bool.not_eq_true', hci, hcx, w3, z3, ite0, Int.ofNat_eq_natCast, Int.toNat_natCast, add64, sub64] at h) <;> (try (exfalso; omega))) | (with_reducible refine tr_alt (fun h => ?_) ?_ <;> (try (exfalso; omega))) | (with_reducible first | refine tr_ob ?_ ?_ | refine tr_done ?_) | (refine aw_tr hj tok (bookM2 x_fewC x_valC x_outC x_goC) (by cbv) ?_) | (refine aw_seq fun K hK => ?_) | (refine aw_tr1 hj tok (bookM2 x_fewC x_valC x_outC x_goC) (by cbv) ?_) | (refine aw_skip ?_) | (refine aw_block ?_) | (refine aw_exit ?_) | (refine aw_ret ⟨.inr rfl, ret_okj hj (by cbv) ?_ ?_⟩) | (refine aw_ret ?_) | (with_reducible first | refine th_n ?_ | refine th_r ?_ | refine th_x ?_ | refine blk_n ?_ | refine blk_r ?_ | refine blk_x ?_ | refine blk_y rfl ?_) | (refine ⟨.inr rfl, ret_okj hj (by cbv) ?_ ?_⟩) | (refine ⟨.inl rfl, ret_okj hj (by cbv) ?_ ?_⟩) | (with_reducible first | refine ⟨(_, _, _, _), by cbv, ?_, ?_⟩ | refine ⟨(_, _, _), by cbv, ?_, ?_⟩ | refine ⟨_, by cbv, ?_, ?_⟩) | (with_reducible apply_assumption -symm -exfalso only [*]))
         all_goals ((try subst y_fewC); (try subst y_valC); (try subst y_outC); (try subst y_goC); (try subst y_bC); (try subst y_nB); (try subst y_mC); (try subst y_nM); (try subst y_mtC); (try subst y_nMt))
         all_goals (try (repeat' first | with_reducible exact obl0 | (with_reducible refine obl1 ?_ ?_)))
         all_goals (try first | with_reducible exact True.intro | ((first | refine ob_pc hj ?_ | refine ob_pcn hj ?_); (try rw [hj]); first | exact cA | exact cB) | ((first | refine ob_le hj ?_ | refine ob_lei hj ?_ | refine ob_inb hj ?_ | refine ob_pos hj ?_ | refine ob_ne0 hj ?_ | refine ob_eqb hj ?_); (first | rfl | first | omega | (simp only [hj, std]; split <;> omega) | (simp (disch := omega) only [hj, std, cmpI, cmpB, satB, add64, sub64, ite0, pl0, pl2, pl3, sb0, if_true, if_false, eq_self, lv, nv, nri, lri, nrx, lrx, hci, hcx, Int.toNat_natCast] <;> omega) | (simp (disch := omega) [hj, std, cmpI, cmpB, satB, add64, sub64, ite0, pl0, pl2, pl3, sb0, if_true, if_false, eq_self, lv, nv, nri, lri, nrx, lrx, hci, hcx, Int.toNat_natCast] <;> omega))) | ((refine ob_ok hj ?_; simp only [hj, std, ite0, hci, hcx, Int.toNat_natCast, Int.ofNat_eq_natCast]; first | exact .inr ⟨_, _, rfl⟩ | exact .inr ⟨_, _, hci⟩ | exact .inr ⟨_, _, hcx⟩ | exact hoi | exact hox)) | ((simp (disch := omega) only [hj, std, add64, ite0, hci, hcx, Int.toNat_natCast]; first | omega | exact ⟨by omega, by omega, v, rfl, rfl, rfl, hnt, hTp⟩)))
       ·as_aux_lemma =>
         have hv9 := hyes rfl
         rw [hv9] at hnt hTp
         clear hno hyes hv9
         generalize y_fewC : @fewC = x_fewC at *
         generalize y_valC : @valC = x_valC at *
         generalize y_outC : @outC = x_outC at *
         generalize y_goC : @goC = x_goC at *
         generalize y_bC : @bC = x_bC at *
         generalize y_nB : @nB = x_nB at *
         generalize y_mC : @mC = x_mC at *
         generalize y_nM : @nM = x_nM at *
         generalize y_mtC : @mtC = x_mtC at *
         generalize y_nMt : @nMt = x_nMt at *
         (repeat' first | (with_reducible refine ⟨(_, _, _, _), by cbv, ?_, ?_⟩) | ((first | with_reducible refine tr_cut (fun h => ?_) (fun h => ?_) | refine aw_condj (by cbv) (fun h => ?_) (fun h => ?_)) <;> (try simp (disch := omega) only [hj, std, cmpI, cmpB, satB, Bool.not_eq_true, Bool.not_eq_false, decide_eq_true_eq, decide_eq_false_iff_not, beq_iff_eq, bne_iff_ne, bne_eq_false_iff_eq, beq_eq_false_iff_ne, ne_eq, reduceCtorEq, not_true_eq_false, not_false_eq_true, pl0, if_true, cmpS_eq, cmpS_neq, Bool.not_eq_eq_eq_not, Bool.not_true, Bool.not_false, Bool.not_eq_true', hci, hcx, w3, z3, ite0, Int.ofNat_eq_natCast, Int.toNat_natCast, add64, sub64] at h) <;> (try (exfalso; omega))) | (with_reducible refine tr_alt (fun h => ?_) ?_ <;> (try (exfalso; omega))) | (with_reducible first | refine tr_ob ?_ ?_ | refine tr_done ?_) | (refine aw_tr hj tok (bookM2 x_fewC x_valC x_outC x_goC) (by cbv) ?_) | (refine aw_seq fun K hK => ?_) | (refine aw_tr1 hj tok (bookM2 x_fewC x_valC x_outC x_goC) (by cbv) ?_) | (refine aw_skip ?_) | (refine aw_block ?_) | (refine aw_exit ?_) | (refine aw_ret ⟨.inr rfl, ret_okj hj (by cbv) ?_ ?_⟩) | (refine aw_ret ?_) | (with_reducible first | refine th_n ?_ | refine th_r ?_ | refine th_x ?_ | refine blk_n ?_ | refine blk_r ?_ | refine blk_x ?_ | refine blk_y rfl ?_) | (refine ⟨.inr rfl, ret_okj hj (by cbv) ?_ ?_⟩) | (refine ⟨.inl rfl, ret_okj hj (by cbv) ?_ ?_⟩) | (with_reducible first | refine ⟨(_, _, _, _), by cbv, ?_, ?_⟩ | refine ⟨(_, _, _), by cbv, ?_, ?_⟩ | refine ⟨_, by cbv, ?_, ?_⟩) | (with_reducible apply_assumption -symm -exfalso only [*]))
         all_goals ((try subst y_fewC); (try subst y_valC); (try subst y_outC); (try subst y_goC); (try subst y_bC); (try subst y_nB); (try subst y_mC); (try subst y_nM); (try subst y_mtC); (try subst y_nMt))
         all_goals (try (repeat' first | with_reducible exact obl0 | (with_reducible refine obl1 ?_ ?_)))
         all_goals (try first | with_reducible exact True.intro | ((first | refine ob_pc hj ?_ | refine ob_pcn hj ?_); (try rw [hj]); first | exact cA | exact cB) | ((first | refine ob_le hj ?_ | refine ob_lei hj ?_ | refine ob_inb hj ?_ | refine ob_pos hj ?_ | refine ob_ne0 hj ?_ | refine ob_eqb hj ?_); (first | rfl | first | omega | (simp only [hj, std]; split <;> omega) | (simp (disch := omega) only [hj, std, cmpI, cmpB, satB, add64, sub64, ite0, pl0, pl2, pl3, sb0, if_true, if_false, eq_self, lv, nv, nri, lri, nrx, lrx, hci, hcx, Int.toNat_natCast] <;> omega) | (simp (disch := omega) [hj, std, cmpI, cmpB, satB, add64, sub64, ite0, pl0, pl2, pl3, sb0, if_true, if_false, eq_self, lv, nv, nri, lri, nrx, lrx, hci, hcx, Int.toNat_natCast] <;> omega))) | ((refine ob_ok hj ?_; simp only [hj, std, ite0, hci, hcx, Int.toNat_natCast, Int.ofNat_eq_natCast]; first | exact .inr ⟨_, _, rfl⟩ | exact .inr ⟨_, _, hci⟩ | exact .inr ⟨_, _, hcx⟩ | exact hoi | exact hox)) | ((simp (disch := omega) only [hj, std, add64, ite0, hci, hcx, Int.toNat_natCast]; first | omega | exact ⟨by omega, by omega, (xSet v.1 i.toNat k.toNat, true), hnx2.symm, hset, rfl, hnt, hTp⟩)))
     ·have hVv : V = v := by
       rcases Bool.eq_false_or_eq_true (xAt v.1 i.toNat k.toNat) with h | h
       ·exact hKs t.toNat v (by omega) hv h
       ·have : ¬ t < (n : Int) := fun h2 => htx ⟨h2, h⟩
        rw [hKr, hv, show t.toNat = n by omega]
      rw [hVv] at hnk
      clear hKs hKr hKp
      rcases Decidable.em (t < (n : Int)) with ht | ht
      ·as_aux_lemma =>
        have hx : xAt v.1 i.toNat k.toNat = true := by
         rcases Bool.eq_false_or_eq_true (xAt v.1 i.toNat k.toNat) with h | h
         ·exact h
         ·exact absurd ⟨ht, h⟩ htx
        rw [hx] at w3
        generalize y_fewC : @fewC = x_fewC at *
        generalize y_valC : @valC = x_valC at *
        generalize y_outC : @outC = x_outC at *
        generalize y_goC : @goC = x_goC at *
        generalize y_bC : @bC = x_bC at *
        generalize y_nB : @nB = x_nB at *
        generalize y_mC : @mC = x_mC at *
        generalize y_nM : @nM = x_nM at *
        generalize y_mtC : @mtC = x_mtC at *
        generalize y_nMt : @nMt = x_nMt at *
        (repeat' first | (with_reducible refine ⟨(_, _, _, _), by cbv, ?_, ?_⟩) | ((first | with_reducible refine tr_cut (fun h => ?_) (fun h => ?_) | refine aw_condj (by cbv) (fun h => ?_) (fun h => ?_)) <;> (try simp (disch := omega) only [hj, std, cmpI, cmpB, satB, Bool.not_eq_true, Bool.not_eq_false, decide_eq_true_eq, decide_eq_false_iff_not, beq_iff_eq, bne_iff_ne, bne_eq_false_iff_eq, beq_eq_false_iff_ne, ne_eq, reduceCtorEq, not_true_eq_false, not_false_eq_true, pl0, if_true, cmpS_eq, cmpS_neq, Bool.not_eq_eq_eq_not, Bool.not_true, Bool.not_false, Bool.not_eq_true', hci, w3, ite0, Int.ofNat_eq_natCast, add64, sub64] at h) <;> (try (exfalso; omega))) | (with_reducible refine tr_alt (fun h => ?_) ?_ <;> (try (exfalso; omega))) | (with_reducible first | refine tr_ob ?_ ?_ | refine tr_done ?_) | (refine aw_tr hj tok (bookM2 x_fewC x_valC x_outC x_goC) (by cbv) ?_) | (refine aw_seq fun K hK => ?_) | (refine aw_tr1 hj tok (bookM2 x_fewC x_valC x_outC x_goC) (by cbv) ?_) | (refine aw_skip ?_) | (refine aw_block ?_) | (refine aw_exit ?_) | (refine aw_ret ⟨.inr rfl, ret_okj hj (by cbv) ?_ ?_⟩) | (refine aw_ret ?_) | (with_reducible first | refine th_n ?_ | refine th_r ?_ | refine th_x ?_ | refine blk_n ?_ | refine blk_r ?_ | refine blk_x ?_ | refine blk_y rfl ?_) | (refine ⟨.inr rfl, ret_okj hj (by cbv) ?_ ?_⟩) | (refine ⟨.inl rfl, ret_okj hj (by cbv) ?_ ?_⟩) | (with_reducible first | refine ⟨(_, _, _, _), by cbv, ?_, ?_⟩ | refine ⟨(_, _, _), by cbv, ?_, ?_⟩ | refine ⟨_, by cbv, ?_, ?_⟩) | (with_reducible apply_assumption -symm -exfalso only [*]))
        all_goals ((try subst y_fewC); (try subst y_valC); (try subst y_outC); (try subst y_goC); (try subst y_bC); (try subst y_nB); (try subst y_mC); (try subst y_nM); (try subst y_mtC); (try subst y_nMt))
        all_goals (try (repeat' first | with_reducible exact obl0 | (with_reducible refine obl1 ?_ ?_)))
        all_goals (try first | with_reducible exact True.intro | ((first | refine ob_le hj ?_ | refine ob_lei hj ?_ | refine ob_inb hj ?_ | refine ob_pos hj ?_ | refine ob_ne0 hj ?_ | refine ob_eqb hj ?_); (first | rfl | first | omega | (simp only [hj, std]; split <;> omega) | (simp (disch := omega) only [hj, std, cmpI, cmpB, satB, add64, sub64, ite0, pl0, pl2, pl3, sb0, if_true, if_false, eq_self, lv, nv, nri, lri, hci] <;> omega) | (simp (disch := omega) [hj, std, cmpI, cmpB, satB, add64, sub64, ite0, pl0, pl2, pl3, sb0, if_true, if_false, eq_self, lv, nv, nri, lri, hci] <;> omega))) | ((refine ob_ok hj ?_; simp only [hj, std, ite0, hci]; first | exact .inr ⟨_, _, rfl⟩ | exact .inr ⟨_, _, hci⟩ | exact hoi)) | ((simp (disch := omega) only [hj, std, add64, ite0]; first | omega | exact ⟨by omega, by omega, v, rfl, rfl, rfl, hnk, hRv⟩)))
      ·as_aux_lemma =>
        generalize y_fewC : @fewC = x_fewC at *
        generalize y_valC : @valC = x_valC at *
        generalize y_outC : @outC = x_outC at *
        generalize y_goC : @goC = x_goC at *
        generalize y_bC : @bC = x_bC at *
        generalize y_nB : @nB = x_nB at *
        generalize y_mC : @mC = x_mC at *
        generalize y_nM : @nM = x_nM at *
        generalize y_mtC : @mtC = x_mtC at *
        generalize y_nMt : @nMt = x_nMt at *
        (repeat' first | (with_reducible refine ⟨(_, _, _, _), by cbv, ?_, ?_⟩) | ((first | with_reducible refine tr_cut (fun h => ?_) (fun h => ?_) | refine aw_condj (by cbv) (fun h => ?_) (fun h => ?_)) <;> (try simp (disch := omega) only [hj, std, cmpI, cmpB, satB, Bool.not_eq_true, Bool.not_eq_false, decide_eq_true_eq, decide_eq_false_iff_not, beq_iff_eq, bne_iff_ne, bne_eq_false_iff_eq, beq_eq_false_iff_ne, ne_eq, reduceCtorEq, not_true_eq_false, not_false_eq_true, pl0, if_true, cmpS_eq, cmpS_neq, Bool.not_eq_eq_eq_not, Bool.not_true, Bool.not_false, Bool.not_eq_true', hci, w3, ite0, Int.ofNat_eq_natCast, add64, sub64] at h) <;> (try (exfalso; omega))) | (with_reducible refine tr_alt (fun h => ?_) ?_ <;> (try (exfalso; omega))) | (with_reducible first | refine tr_ob ?_ ?_ | refine tr_done ?_) | (refine aw_tr hj tok (bookM2 x_fewC x_valC x_outC x_goC) (by cbv) ?_) | (refine aw_seq fun K hK => ?_) | (refine aw_tr1 hj tok (bookM2 x_fewC x_valC x_outC x_goC) (by cbv) ?_) | (refine aw_skip ?_) | (refine aw_block ?_) | (refine aw_exit ?_) | (refine aw_ret ⟨.inr rfl, ret_okj hj (by cbv) ?_ ?_⟩) | (refine aw_ret ?_) | (with_reducible first | refine th_n ?_ | refine th_r ?_ | refine th_x ?_ | refine blk_n ?_ | refine blk_r ?_ | refine blk_x ?_ | refine blk_y rfl ?_) | (refine ⟨.inr rfl, ret_okj hj (by cbv) ?_ ?_⟩) | (refine ⟨.inl rfl, ret_okj hj (by cbv) ?_ ?_⟩) | (with_reducible first | refine ⟨(_, _, _, _), by cbv, ?_, ?_⟩ | refine ⟨(_, _, _), by cbv, ?_, ?_⟩ | refine ⟨_, by cbv, ?_, ?_⟩) | (with_reducible apply_assumption -symm -exfalso only [*]))
        all_goals ((try subst y_fewC); (try subst y_valC); (try subst y_outC); (try subst y_goC); (try subst y_bC); (try subst y_nB); (try subst y_mC); (try subst y_nM); (try subst y_mtC); (try subst y_nMt))
        all_goals (try (repeat' first | with_reducible exact obl0 | (with_reducible refine obl1 ?_ ?_)))
        all_goals (try first | with_reducible exact True.intro | ((first | refine ob_le hj ?_ | refine ob_lei hj ?_ | refine ob_inb hj ?_ | refine ob_pos hj ?_ | refine ob_ne0 hj ?_ | refine ob_eqb hj ?_); (first | rfl | first | omega | (simp only [hj, std]; split <;> omega) | (simp (disch := omega) only [hj, std, cmpI, cmpB, satB, add64, sub64, ite0, pl0, pl2, pl3, sb0, if_true, if_false, eq_self, lv, nv, nri, lri, w1, w2] <;> omega) | (simp (disch := omega) [hj, std, cmpI, cmpB, satB, add64, sub64, ite0, pl0, pl2, pl3, sb0, if_true, if_false, eq_self, lv, nv, nri, lri, w1, w2] <;> omega))) | ((simp (disch := omega) only [hj, std, add64, ite0]; first | omega | exact ⟨by omega, by omega, v, rfl, rfl, rfl, hnk, hRv⟩)))
    ·have ek : k.toNat = b.length + 1 := by omega
     rw [ek, ← hIr] at hu
     rw [← hu] at hnx
     clear hIr hIp
     generalize y_fewC : @fewC = x_fewC at *
     generalize y_valC : @valC = x_valC at *
     generalize y_outC : @outC = x_outC at *
     generalize y_goC : @goC = x_goC at *
     generalize y_bC : @bC = x_bC at *
     generalize y_nB : @nB = x_nB at *
     generalize y_mC : @mC = x_mC at *
     generalize y_nM : @nM = x_nM at *
     generalize y_mtC : @mtC = x_mtC at *
     generalize y_nMt : @nMt = x_nMt at *
     (repeat' first | (with_reducible refine ⟨(_, _, _, _), by cbv, ?_, ?_⟩) | ((first | with_reducible refine tr_cut (fun h => ?_) (fun h => ?_) | refine aw_condj (by cbv) (fun h => ?_) (fun h => ?_)) <;> (try simp (disch := omega) only [hj, std, cmpI, cmpB, satB, Bool.not_eq_true, Bool.not_eq_false, decide_eq_true_eq, decide_eq_false_iff_not, beq_iff_eq, bne_iff_ne, bne_eq_false_iff_eq, beq_eq_false_iff_ne, ne_eq, reduceCtorEq, not_true_eq_false, not_false_eq_true, pl0, if_true, cmpS_eq, cmpS_neq, Bool.not_eq_eq_eq_not, Bool.not_true, Bool.not_false, Bool.not_eq_true', Int.ofNat_eq_natCast, add64, sub64] at h) <;> (try (exfalso; omega))) | (with_reducible refine tr_alt (fun h => ?_) ?_ <;> (try (exfalso; omega))) | (with_reducible first | refine tr_ob ?_ ?_ | refine tr_done ?_) | (refine aw_tr hj tok (bookM2 x_fewC x_valC x_outC x_goC) (by cbv) ?_) | (refine aw_seq fun K hK => ?_) | (refine aw_tr1 hj tok (bookM2 x_fewC x_valC x_outC x_goC) (by cbv) ?_) | (refine aw_skip ?_) | (refine aw_block ?_) | (refine aw_exit ?_) | (refine aw_ret ⟨.inr rfl, ret_okj hj (by cbv) ?_ ?_⟩) | (refine aw_ret ?_) | (with_reducible first | refine th_n ?_ | refine th_r ?_ | refine th_x ?_ | refine blk_n ?_ | refine blk_r ?_ | refine blk_x ?_ | refine blk_y rfl ?_) | (refine ⟨.inr rfl, ret_okj hj (by cbv) ?_ ?_⟩) | (refine ⟨.inl rfl, ret_okj hj (by cbv) ?_ ?_⟩) | (with_reducible first | refine ⟨(_, _, _, _), by cbv, ?_, ?_⟩ | refine ⟨(_, _, _), by cbv, ?_, ?_⟩ | refine ⟨_, by cbv, ?_, ?_⟩) | (with_reducible apply_assumption -symm -exfalso only [*]))
     all_goals ((try subst y_fewC); (try subst y_valC); (try subst y_outC); (try subst y_goC); (try subst y_bC); (try subst y_nB); (try subst y_mC); (try subst y_nM); (try subst y_mtC); (try subst y_nMt))
     all_goals (try (repeat' first | with_reducible exact obl0 | (with_reducible refine obl1 ?_ ?_)))
     all_goals (try first | with_reducible exact True.intro | ((first | refine ob_le hj ?_ | refine ob_lei hj ?_ | refine ob_inb hj ?_ | refine ob_pos hj ?_ | refine ob_ne0 hj ?_ | refine ob_eqb hj ?_); (first | rfl | first | omega | (simp only [hj, std]; split <;> omega) | (simp (disch := omega) only [hj, std, cmpI, cmpB, satB, add64, sub64, ite0, pl0, pl2, pl3, sb0, if_true, if_false, eq_self] <;> omega) | (simp (disch := omega) [hj, std, cmpI, cmpB, satB, add64, sub64, ite0, pl0, pl2, pl3, sb0, if_true, if_false, eq_self] <;> omega))) | ((simp (disch := omega) only [hj, std, add64, ite0]; first | omega | exact ⟨by omega, by omega, u, rfl, rfl, rfl, hnx, hRu⟩)))
   ·have ei : i.toNat = a.length + 1 := by omega
    rw [ei, ← hRr] at hs
    obtain ⟨e1, e2, e3⟩ := hE0 s hs
    clear hE0 hRr
    generalize y_fewC : @fewC = x_fewC at *
    generalize y_valC : @valC = x_valC at *
    generalize y_outC : @outC = x_outC at *
    generalize y_goC : @goC = x_goC at *
    generalize y_bC : @bC = x_bC at *
    generalize y_nB : @nB = x_nB at *
    generalize y_mC : @mC = x_mC at *
    generalize y_nM : @nM = x_nM at *
    generalize y_mtC : @mtC = x_mtC at *
    generalize y_nMt : @nMt = x_nMt at *
    (repeat' first | (with_reducible refine ⟨(_, _, _), by cbv, ?_, ?_⟩) | ((first | with_reducible refine tr_cut (fun h => ?_) (fun h => ?_) | refine aw_condj (by cbv) (fun h => ?_) (fun h => ?_)) <;> (try simp (disch := omega) only [hj, std, cmpI, cmpB, satB, Bool.not_eq_true, Bool.not_eq_false, decide_eq_true_eq, decide_eq_false_iff_not, beq_iff_eq, bne_iff_ne, bne_eq_false_iff_eq, beq_eq_false_iff_ne, ne_eq, reduceCtorEq, not_true_eq_false, not_false_eq_true, pl0, if_true, cmpS_eq, cmpS_neq, Bool.not_eq_eq_eq_not, Bool.not_true, Bool.not_false, Bool.not_eq_true', Int.ofNat_eq_natCast, add64, sub64] at h) <;> (try (exfalso; omega))) | (with_reducible refine tr_alt (fun h => ?_) ?_ <;> (try (exfalso; omega))) | (with_reducible first | refine tr_ob ?_ ?_ | refine tr_done ?_) | (refine aw_tr hj tok (bookM2 x_fewC x_valC x_outC x_goC) (by cbv) ?_) | (refine aw_seq fun K hK => ?_) | (refine aw_tr1 hj tok (bookM2 x_fewC x_valC x_outC x_goC) (by cbv) ?_) | (refine aw_skip ?_) | (refine aw_block ?_) | (refine aw_exit ?_) | (refine aw_ret ⟨.inr rfl, ret_okj hj (by cbv) ?_ ?_⟩) | (refine aw_ret ?_) | (with_reducible first | refine th_n ?_ | refine th_r ?_ | refine th_x ?_ | refine blk_n ?_ | refine blk_r ?_ | refine blk_x ?_ | refine blk_y rfl ?_) | (refine ⟨.inr rfl, ret_okj hj (by cbv) ?_ ?_⟩) | (refine ⟨.inl rfl, ret_okj hj (by cbv) ?_ ?_⟩) | (with_reducible first | refine ⟨(_, _, _, _), by cbv, ?_, ?_⟩ | refine ⟨(_, _, _), by cbv, ?_, ?_⟩ | refine ⟨_, by cbv, ?_, ?_⟩) | (with_reducible apply_assumption -symm -exfalso only [*]))
    all_goals ((try subst y_fewC); (try subst y_valC); (try subst y_outC); (try subst y_goC); (try subst y_bC); (try subst y_nB); (try subst y_mC); (try subst y_nM); (try subst y_mtC); (try subst y_nMt))
    all_goals (try (repeat' first | with_reducible exact obl0 | with_reducible refine obl1 ?_ ?_))
    all_goals (try first | with_reducible exact True.intro | ((first | refine ob_le hj ?_ | refine ob_lei hj ?_ | refine ob_inb hj ?_ | refine ob_pos hj ?_ | refine ob_ne0 hj ?_ | refine ob_eqb hj ?_); (first | rfl | first | omega | (simp only [hj, std]; split <;> omega) | (simp (disch := omega) only [hj, std, cmpI, cmpB, satB, add64, sub64, ite0, pl0, pl2, pl3, sb0, if_true, if_false, eq_self] <;> omega) | (simp (disch := omega) [hj, std, cmpI, cmpB, satB, add64, sub64, ite0, pl0, pl2, pl3, sb0, if_true, if_false, eq_self] <;> omega))) | (exact ⟨s.1, d + 1, rfl, rfl, e1, fun h => (e2 h).1, e3⟩) | ((show (if s.2 = true then _ else 0) < (if true = true then _ else 0); rw [rwsOf_mtC, rwsOf_mtC, if_pos (rfl : true = true)]; split; have e2 := (e2 (by assumption)).2; omega; omega)))
end Go.Proofs.YtcpcghnpoekhpaaDoor.A
/- Machines: Apart's contract. -/
set_option linter.unusedSimpArgs false
set_option linter.unusedVariables false
set_option maxRecDepth 100000
set_option maxHeartbeats 4000000
namespace Go.Proofs.YtcpcghnpoekhpaaDoor.A
open Go
theorem c_Apart {a b : List Sta} (ha : MOk a) (hb : MOk b) : CApart a b 6 := by
 refine ⟨enters Tryd.func20 (by kernel_rfl) (by kernel_rfl), ?_⟩
 have e1 : apC (mC a) (mC b) 6 = mtC (apF a b 6) := by unfold apC; rw [stsOf_mC, stsOf_mC]; rfl
 have e2 : nApC (mC a) (mC b) 6 = nMt (apF a b 6) := by unfold nApC; rw [stsOf_mC, stsOf_mC]; rfl
 rw [e1, e2]
 exact pc_Apart a b 6 ha.sz hb.sz (by omega)
end Go.Proofs.YtcpcghnpoekhpaaDoor.A
/- Machines that came in, as cells. -/
set_option linter.unusedSimpArgs false
set_option linter.unusedVariables false
set_option maxRecDepth 100000
set_option maxHeartbeats 4000000
namespace Go.Proofs.YtcpcghnpoekhpaaDoor.A
open Go
abbrev REg : Rd (Int × Int) := RRec2 RInt RInt
abbrev RSta : Rd (Int × List (Int × Int)) := RRec2 RInt (RSl 2 16 REg)
abbrev RMac : Rd (List (Int × List (Int × Int))) := RSl 2 32 RSta
theorem rdcM_to {α : Type} {R : Rd α} {f g : α → List C} (h : RdC R f) (e : ∀ x, f x = g x) : RdC R g := by rw [← show f = g from funext e]; exact h
theorem slM_mem {α : Type} {sz by_ : Nat} {R : Rd α} {w : World} {cs : List Value} {xs : List α} (h : RSl sz by_ R w cs xs) : ∀ x ∈ xs, ∃ cs', R w cs' x := by
 obtain ⟨a, cap, _, hs, _⟩ := h
 intro x hx
 obtain ⟨i, hi, rfl⟩ := List.mem_iff_getElem.1 hx
 obtain ⟨b, off, _, _, hc⟩ := hs (by omega)
 obtain ⟨cs', _, _, h3⟩ := hc i hi
 exact ⟨cs', h3⟩
theorem rdc_egs : RdC (RSl 2 16 REg) fun l => [.sl (nE l) (eC l)] :=
 rdcM_to (rdc_sl (f := fun e : Eg => [vI e.1] ++ [vI e.2]) (rdc_rec2 rdc_int rdc_int) (fun _ => rfl)) fun l => by rw [nE_eq]; rfl
theorem rdc_mac : RdC RMac fun l => [.sl (nM l) (mC l)] :=
 rdcM_to (rdc_sl (f := fun s : Sta => [vI s.1] ++ [.sl (nE s.2) (eC s.2)]) (rdc_rec2 rdc_int rdc_egs) (fun _ => rfl)) fun l => by rw [nM_eq]; rfl
theorem mac_bound {w : World} {cs : List Value} {m : List Sta} (h : RMac w cs m) : ∀ s ∈ m, s.1 ≤ 9223372036854775807 := by
 intro s hs
 obtain ⟨cs', c0, c1, rfl, h1, _⟩ := slM_mem h s hs
 have := h1.2
 omega
theorem slM_bound {α : Type} {sz by_ : Nat} {R : Rd α} {w : World} {cs : List Value} {xs : List α} (h : RSl sz by_ R w cs xs) : xs.length * by_ ≤ 140737488351232 := by
 obtain ⟨a, cap, _, _, hle, hcap, _⟩ := h
 exact Nat.le_trans (Nat.mul_le_mul_right _ hle) hcap
theorem mac_sz {w : World} {cs : List Value} {m : List Sta} (h : RMac w cs m) : m.length ≤ 4398046510976 ∧ ∀ s ∈ m, s.2.length ≤ 8796093021952 := by
 refine ⟨by have := slM_bound h; omega, fun s hs => ?_⟩
 obtain ⟨cs', c0, c1, rfl, _, h2⟩ := slM_mem h s hs
 have := slM_bound h2
 omega
theorem mac_arg {w : World} {a : Option Addr} {len cap : Nat} {m : List Sta} (h : RMac w (Value.slice a len cap).cells.toList m) : CRep w (fun b => b < w.heap.size) (.slice a len cap) (.sl (nM m) (mC m)) := by
 obtain ⟨h1, h2⟩ := rdc_mac w _ m h
 have e : (Value.slice a len cap).cells.toList = [.slice a len cap] := rfl
 rw [e] at h1 h2
 exact h2 0 (by simp) (by simp)
end Go.Proofs.YtcpcghnpoekhpaaDoor.A
/- Machines: the table of the program's text; what comes in. -/
set_option linter.unusedSimpArgs false
set_option linter.unusedVariables false
set_option maxRecDepth 100000
set_option maxHeartbeats 4000000
namespace Go.Proofs.YtcpcghnpoekhpaaDoor
open Go Go.RowKit
theorem laid_tail {P : Program} {x : String × DataW Unit} {r : List (String × DataW Unit)} {w : World} (h : laidMet P (x :: r) w) : laidMet P r w := by
 obtain ⟨ps, hv, hnd, hrows⟩ := h
 obtain ⟨n, d⟩ := x
 obtain ⟨g, t, cs, fuel, p, q, _, _, _, _, hq, rfl⟩ := hv
 exact ⟨q, hq, List.Nodup.sublist (List.sublist_append_right _ _) hnd, fun b off hm => hrows b off (List.mem_append_right _ hm)⟩
theorem tab_met {name : String} {rest : List (String × DataW Unit)} {W : World} (hg : Tryd.prog.globalNamed name = some 0) (h : laidMet Tryd.prog ((name, Lib.tabData .u64 Lib.pow10Tab) :: rest) W) : A.Gnd W (fun b => b < W.heap.size) := by
 have ht := Lib.tabIs_of_head (g := 0) (t := 64) (e := 56) (n := 20) hg (by kernel_rfl) (by kernel_rfl) (by kernel_rfl) (by kernel_rfl) (by kernel_rfl) h
 unfold Lib.TabIs World.var? at ht
 rw [hg] at ht
 change (match W.heap[0]? with | some (.cells cs _ _) => some cs | _ => none) = _ at ht
 split at ht
 ·rename_i cs e z hh
  have hlt : 0 < W.heap.size := by
   rcases Nat.lt_or_ge 0 W.heap.size with h' | h'
   ·exact h'
   ·rw [Array.getElem?_eq_none h'] at hh; cases hh
  refine ⟨hlt, e, z, ?_⟩
  rw [hh]
  cases ht
  rfl
 ·cases ht
theorem gnd_of {W : World} (h : laidMetH Tryd.prog Rows.miniUsefulRow.laid W) : A.Gnd W (fun b => b < W.heap.size) := by
 rw [Go.MakeChecks.laidMetH_plain _ _ _ (by kernel_rfl)] at h
 exact tab_met (by kernel_rfl) (laid_tail (laid_tail h))
theorem mac_rep {w : World} {a : Option Addr} {len cap : Nat} {m : List A.Sta} (h : A.RMac w (Value.slice a len cap).cells.toList m) : ∀ i (h0 : i < [A.Arg.v false [.sl (A.nM m) (A.mC m)]].length) (h2 : i < [Value.slice a len cap].length), A.ArgRep w (fun b => b < w.heap.size) (fun _ => 0) 0 [Value.slice a len cap][i] [A.Arg.v false [.sl (A.nM m) (A.mC m)]][i] := fun i h0 h2 => by
 have h3 : i < 1 := h0
 obtain rfl : i = 0 := by omega
 exact ⟨_, rfl, A.mac_arg h⟩
end Go.Proofs.YtcpcghnpoekhpaaDoor
/- MiniUseful: the walk, as the row's step asks for it. -/
set_option linter.unusedSimpArgs false
set_option linter.unusedVariables false
set_option maxRecDepth 100000
set_option maxHeartbeats 4000000
namespace Go.Proofs.YtcpcghnpoekhpaaDoor
open Go Go.RowKit
theorem miniUseful_walk (w : World) (a : Option Addr) (len cap : Nat) (m : List A.Sta) (R : A.RMac w (Value.slice a len cap).cells.toList m) (htab : A.Gnd w (fun b => b < w.heap.size)) : Calls Tryd.prog 6 #[.slice a len cap] w fun e w' => e = .returned (.bool true) ∧ Below w.heap.size w w' :=
 A.walk_of_pc (vs := [.slice a len cap]) (A.pc_MiniUseful m (A.mac_sz R).1 (A.mac_bound R) fun h => A.c_Apart h h) (by simp [A.Arg.asRoot]) (fun b => b < w.heap.size) (fun _ h => h) rfl (mac_rep R) rfl htab
end Go.Proofs.YtcpcghnpoekhpaaDoor
/- Machines: the classes are those of what is told. The plain law. -/
set_option linter.unusedSimpArgs false
set_option linter.unusedVariables false
set_option maxRecDepth 100000
set_option maxHeartbeats 4000000
namespace Go.Proofs.YtcpcghnpoekhpaaDoor.A
open Go
section
variable {m : List Sta} {use : List Bool}
theorem new_iff {o : List Int} (hc : (seenL m use o m.length).length = (seenL m use (clsL m use o) m.length).length) : ∀ i, i ≤ m.length → (seenL m use o i).length = (seenL m use (clsL m use o) i).length := by
 -- the difference never falls, and ends with nothing
 have hstep : ∀ i, i < m.length → (seenL m use (clsL m use o) i).length + (seenL m use o (i + 1)).length ≤ (seenL m use (clsL m use o) (i + 1)).length + (seenL m use o i).length := by
  intro i hi
  rw [seenL.eq_2, seenL.eq_2]
  by_cases h : bAt use i = true ∧ inL (seenL m use o i) (sgB m use o i) = false
  ·rw [if_pos h]
   have h2 : inL (seenL m use (clsL m use o) i) (sgB m use (clsL m use o) i) = false := by
    rw [inL_not]
    intro hm
    obtain ⟨q, hq, hu, he⟩ := seen_mem hm
    have h3 := (sgB_iff.1 he).1
    rw [cls_at (by omega), cls_at (by omega), if_pos h.1, if_pos hu] at h3
    have h4 : sgB m use o i = sgB m use o q := ixL_inj (l := seenL m use o m.length) (seen_in (by omega) h.1) (seen_in (by omega) hu) (by omega)
    have h5 := seen_in (m := m) (out := o) hq hu
    rw [← h4, h.2] at h5; cases h5
   rw [if_pos ⟨h.1, h2⟩, List.length_append, List.length_append]; simp; omega
  ·rw [if_neg h]
   split
   ·rw [List.length_append]; omega
   ·omega
 have hmono : ∀ d i, i + d ≤ m.length → (seenL m use (clsL m use o) i).length + (seenL m use o (i + d)).length ≤ (seenL m use (clsL m use o) (i + d)).length + (seenL m use o i).length := by
  intro d
  induction d with
  | zero => intro i _; rw [Nat.add_zero]; omega
  | succ d ih =>
   intro i hi
   have h1 := ih i (by omega)
   have h2 := hstep (i + d) (by omega)
   rw [← Nat.add_assoc]; omega
 intro i hi
 have h1 := hmono i 0 (by omega)
 have h2 := hmono (m.length - i) i (by omega)
 rw [Nat.zero_add] at h1
 rw [show i + (m.length - i) = m.length by omega, hc] at h2
 have e1 : (seenL m use o 0).length = 0 := rfl
 have e2 : (seenL m use (clsL m use o) 0).length = 0 := rfl
 omega
theorem cls_stable {o : List Int} (hc : (seenL m use o m.length).length = (seenL m use (clsL m use o) m.length).length) : ∀ q', q' < m.length → bAt use q' = true → ∀ q, q ≤ q' → bAt use q = true → iAt (clsL m use o) q = iAt (clsL m use o) q' → sgB m use (clsL m use o) q = sgB m use (clsL m use o) q' := by
 have hnew := new_iff hc
 have hcls : ∀ a b, a < m.length → b < m.length → bAt use a = true → bAt use b = true → iAt (clsL m use o) a = iAt (clsL m use o) b → sgB m use o a = sgB m use o b := fun a b ha hb ua ub h => by
  rw [cls_at ha, cls_at hb, if_pos ua, if_pos ub] at h
  exact ixL_inj (l := seenL m use o m.length) (seen_in ha ua) (seen_in hb ub) (by omega)
 intro q'
 induction q' using Nat.strongRecOn with
 | ind q' ih =>
  intro hq' u' q hq u h
  rcases Nat.lt_or_ge q q' with hlt | hge
  ·have hs := hcls q q' (by omega) hq' u u' h
   have hold : inL (seenL m use o q') (sgB m use o q') = true := by rw [← hs]; exact seen_in hlt u
   have hold2 : inL (seenL m use (clsL m use o) q') (sgB m use (clsL m use o) q') = true := by
    have h1 := hnew q' (by omega)
    have h2 := hnew (q' + 1) (by omega)
    rw [seenL.eq_2, seenL.eq_2, if_neg (fun hh => by rw [hold] at hh; cases hh.2)] at h2
    cases hx : inL (seenL m use (clsL m use o) q') (sgB m use (clsL m use o) q') with
    | true => rfl
    | false =>
     rw [if_pos ⟨u', hx⟩, List.length_append] at h2
     simp at h2; omega
   obtain ⟨p, hp, up, hsp⟩ := seen_mem (inL_iff.1 hold2)
   have hcp : iAt (clsL m use o) p = iAt (clsL m use o) q' := (sgB_iff.1 hsp).1.symm
   rcases Nat.lt_trichotomy p q with h1 | h1 | h1
   ·rw [hsp]
    exact (ih q hlt (by omega) u p (by omega) up (hcp.trans h.symm)).symm
   ·rw [hsp, h1]
   ·rw [hsp]
    exact ih p hp (by omega) up q (by omega) u (h.trans hcp.symm)
  ·obtain rfl : q = q' := by omega
   rfl
theorem clGo_end : ∀ (f : Nat) (o : List Int) (cnt : Int), (cnt = -1 ∨ ∃ o', o = clsL m use o' ∧ cnt = ((seenL m use o' m.length).length : Int)) → cnt ≤ ((seenL m use o m.length).length : Int) → (m.length : Int) ≤ f + cnt → ∃ o', clGo m use f o cnt = clsL m use (clsL m use o') ∧ (seenL m use o' m.length).length = (seenL m use (clsL m use o') m.length).length := by
 intro f
 induction f with
 | zero =>
  intro o cnt h hle hn
  have hs := seen_le (m := m) (use := use) (out := o) m.length
  rcases h with h | ⟨o', rfl, h⟩
  ·omega
  ·exact ⟨o', rfl, by omega⟩
 | succ f ih =>
  intro o cnt h hle hn
  rw [clGo]
  split
  ·rename_i he
   rcases h with h | ⟨o', rfl, h⟩
   ·omega
   ·exact ⟨o', rfl, by omega⟩
  ·rename_i he
   exact ih _ _ (.inr ⟨o, rfl, rfl⟩) (by have := cls_mono m use o m.length (Nat.le_refl _); omega) (by omega)
theorem clF_end (m : List Sta) (use : List Bool) : ∃ o', clF m use = clsL m use (clsL m use o') ∧ (seenL m use o' m.length).length = (seenL m use (clsL m use o') m.length).length := by
 refine clGo_end _ _ _ (.inl rfl) (by omega) ?_
 simp; omega
theorem seen_first {o : List Int} : ∀ q : Nat, bAt use q = true → ∃ r, r ≤ q ∧ bAt use r = true ∧ sgB m use o r = sgB m use o q ∧ inL (seenL m use o r) (sgB m use o r) = false := by
 intro q
 induction q using Nat.strongRecOn with
 | ind q ih =>
  intro u
  cases h : inL (seenL m use o q) (sgB m use o q) with
  | false => exact ⟨q, Nat.le_refl _, u, rfl, h⟩
  | true =>
   obtain ⟨p, hp, up, e⟩ := seen_mem (inL_iff.1 h)
   obtain ⟨r, h1, h2, h3, h4⟩ := ih p hp up
   exact ⟨r, by omega, h2, h3.trans e.symm, h4⟩
theorem new_ix {o : List Int} {r : Nat} (hr : r < m.length) (u : bAt use r = true) (h : inL (seenL m use o r) (sgB m use o r) = false) : ixL (seenL m use o m.length) (sgB m use o r) = (seenL m use o r).length := by
 rw [seen_ixn u (Nat.lt_succ_self r) (by omega : r + 1 ≤ m.length), seenL.eq_2, if_pos ⟨u, h⟩]
 exact ixL_app2 h
theorem cls_fix {o' : List Int} (hc : (seenL m use o' m.length).length = (seenL m use (clsL m use o') m.length).length) : clsL m use (clsL m use o') = clsL m use o' := by
 have hst : ∀ a b, a < m.length → b < m.length → bAt use a = true → bAt use b = true → iAt (clsL m use o') a = iAt (clsL m use o') b → sgB m use (clsL m use o') a = sgB m use (clsL m use o') b := fun a b ha hb ua ub h => by
  rcases Nat.le_total a b with hab | hab
  ·exact cls_stable hc b hb ub a hab ua h
  ·exact (cls_stable hc a ha ua b hab ub h.symm).symm
 refine list_ext_i (by rw [cls_len, cls_len]) fun q hq => ?_
 rw [cls_len] at hq
 rw [cls_at hq]
 by_cases u : bAt use q = true
 ·rw [if_pos u]
  obtain ⟨r, hr, ur, hs, hnew⟩ := seen_first (m := m) (o := o') q u
  have hcl : iAt (clsL m use o') r = iAt (clsL m use o') q := by rw [cls_at (by omega), cls_at hq, if_pos ur, if_pos u, hs]
  have h1 := new_iff hc r (by omega)
  have h2 := new_iff hc (r + 1) (by omega)
  have hnew2 : inL (seenL m use (clsL m use o') r) (sgB m use (clsL m use o') r) = false := by
   cases hx : inL (seenL m use (clsL m use o') r) (sgB m use (clsL m use o') r) with
   | false => rfl
   | true =>
    rw [seenL.eq_2, seenL.eq_2, if_pos ⟨ur, hnew⟩, if_neg (fun hh => by rw [hx] at hh; cases hh.2), List.length_append] at h2
    simp at h2; omega
  rw [← hst r q (by omega) hq ur u hcl, new_ix (by omega) ur hnew2, cls_at hq, if_pos u, ← hs, new_ix (by omega) ur hnew, h1]
 ·rw [if_neg u, cls_at hq, if_neg u]
theorem clF_fix (m : List Sta) (use : List Bool) : clsL m use (clF m use) = clF m use := by
 obtain ⟨o', e, hc⟩ := clF_end m use
 rw [e, cls_fix hc, cls_fix hc]
theorem clF_same {q q' : Nat} (hq : q < m.length) (hq' : q' < m.length) (u : bAt use q = true) (u' : bAt use q' = true) : iAt (clF m use) q = iAt (clF m use) q' ↔ sgB m use (clF m use) q = sgB m use (clF m use) q' := by
 constructor
 ·intro h
  rw [← clF_fix, cls_at hq, cls_at hq', if_pos u, if_pos u'] at h
  exact ixL_inj (l := seenL m use (clF m use) m.length) (seen_in hq u) (seen_in hq' u') (by omega)
 ·intro h; exact (sgB_iff.1 h).1
end
/-! ### states that tell the same are of one class -/
theorem rc_go {m : List Sta} {i : Nat} (hi : i < m.length) (hr : Rc m i) {c : Int} (h : 0 ≤ goM m i c) : Rc m (goM m i c).toNat := .step hr hi (go_mem hi h)
theorem tells_go {m : List Sta} {s c : Int} {w : List Int} (h : tellS m s (c :: w) ≠ -1) : 0 ≤ goM m s c := by
 rcases Int.lt_or_le (goM m s c) 0 with h1 | h1
 ·exact absurd (tell_no w (by omega)) h
 ·exact h1
theorem sgP_mem {use : List Bool} {out : List Int} {l : List Eg} {x : Int × Int} : x ∈ sgP use out l ↔ ∃ e ∈ l, bAt use e.2.toNat = true ∧ x = (e.1, iAt out e.2.toNat) := by
 unfold sgP
 rw [List.mem_filterMap]
 constructor
 ·rintro ⟨e, he, h⟩
  split at h
  ·rename_i hu; exact ⟨e, he, hu, (Option.some.inj h).symm⟩
  ·cases h
 ·rintro ⟨e, he, hu, rfl⟩
  exact ⟨e, he, by rw [if_pos hu]⟩
end Go.Proofs.YtcpcghnpoekhpaaDoor.A
/- Machines: what the least machine is. The plain law. -/
set_option linter.unusedSimpArgs false
set_option linter.unusedVariables false
set_option maxRecDepth 100000
set_option maxHeartbeats 4000000
namespace Go.Proofs.YtcpcghnpoekhpaaDoor.A
open Go
def rowQ (use : List Bool) (cls Q : List Int) (l : List Eg) : List Eg := l.filterMap fun e => if bAt use e.2.toNat = true then some (e.1, (ixL (kyC cls Q) (iAt cls e.2.toNat) : Int)) else none
theorem kyC_app (cls q t : List Int) : kyC cls (q ++ t) = kyC cls q ++ kyC cls t := by unfold kyC; rw [List.map_append]
theorem inL_appL {α : Type} [DecidableEq α] {l t : List α} {a : α} (h : inL l a = true) : inL (l ++ t) a = true := by rw [inL_iff] at h ⊢; exact List.mem_append_left _ h
theorem ixL_appL {α : Type} [DecidableEq α] {l t : List α} {a : α} (h : inL l a = true) : ixL (l ++ t) a = ixL l a := by
 have := ixL_lt h
 unfold ixL at this ⊢
 rw [List.findIdx_append, if_pos this]
theorem mkFold_spec (use : List Bool) (cls : List Int) : ∀ (l : List Eg) (st : List Int × List Eg), ∃ t, (l.foldl (mkStep use cls) st).1 = st.1 ++ t ∧ (∀ s ∈ t, ∃ e ∈ l, e.2 = s ∧ bAt use s.toNat = true) ∧ (∀ e ∈ l, bAt use e.2.toNat = true → inL (kyC cls (st.1 ++ t)) (iAt cls e.2.toNat) = true) ∧ ∀ Q u, Q = st.1 ++ t ++ u → (l.foldl (mkStep use cls) st).2 = st.2 ++ rowQ use cls Q l
 | [], st => ⟨[], by simp, fun s hs => by (cases hs), fun e he => by (cases he), fun Q u _ => by simp [rowQ]⟩
 | e :: l, st => by
  obtain ⟨t, h1, h2, h3, h4⟩ := mkFold_spec use cls l (mkStep use cls st e)
  rw [List.foldl_cons]
  by_cases hu : bAt use e.2.toNat = true
  ·by_cases hin : inL (kyC cls st.1) (iAt cls e.2.toNat) = true
   ·have es : mkStep use cls st e = (st.1, st.2 ++ [(e.1, (ixL (kyC cls st.1) (iAt cls e.2.toNat) : Int))]) := by unfold mkStep; rw [if_pos hu, if_pos hin]
    rw [es] at h1 h3 h4 ⊢
    refine ⟨t, h1, fun s hs => ?_, fun x hx hux => ?_, fun Q u hQ => ?_⟩
    ·obtain ⟨x, hx, h⟩ := h2 s hs; exact ⟨x, List.mem_cons_of_mem _ hx, h⟩
    ·rcases List.mem_cons.1 hx with rfl | hx
     ·rw [kyC_app]; exact inL_appL hin
     ·exact h3 x hx hux
    ·rw [h4 Q u hQ]
     have e9 : ixL (kyC cls Q) (iAt cls e.2.toNat) = ixL (kyC cls st.1) (iAt cls e.2.toNat) := by rw [hQ, List.append_assoc, kyC_app]; exact ixL_appL hin
     unfold rowQ
     rw [List.filterMap_cons, if_pos hu, e9, List.append_assoc]; rfl
   ·have hin' : inL (kyC cls st.1) (iAt cls e.2.toNat) = false := by simpa using hin
    have es : mkStep use cls st e = (st.1 ++ [e.2], st.2 ++ [(e.1, (st.1.length : Int))]) := by unfold mkStep; rw [if_pos hu, if_neg hin]
    rw [es] at h1 h3 h4 ⊢
    have hk : inL (kyC cls (st.1 ++ [e.2])) (iAt cls e.2.toNat) = true := by rw [kyC_app]; exact inL_iff.2 (List.mem_append_right _ (by simp [kyC]))
    refine ⟨e.2 :: t, by rw [h1]; simp, fun s hs => ?_, fun x hx hux => ?_, fun Q u hQ => ?_⟩
    ·rcases List.mem_cons.1 hs with rfl | hs
     ·exact ⟨e, List.mem_cons_self .., rfl, hu⟩
     ·obtain ⟨x, hx, h⟩ := h2 s hs; exact ⟨x, List.mem_cons_of_mem _ hx, h⟩
    ·have e8 : st.1 ++ e.2 :: t = (st.1 ++ [e.2]) ++ t := by simp
     rw [e8]
     rcases List.mem_cons.1 hx with rfl | hx
     ·rw [kyC_app cls (st.1 ++ [x.2])]; exact inL_appL hk
     ·exact h3 x hx hux
    ·have e8 : st.1 ++ e.2 :: t ++ u = (st.1 ++ [e.2]) ++ t ++ u := by simp
     rw [e8] at hQ
     rw [h4 Q u hQ]
     have e9 : ixL (kyC cls Q) (iAt cls e.2.toNat) = st.1.length := by
      rw [hQ, List.append_assoc, kyC_app, ixL_appL hk, kyC_app]
      show ixL (kyC cls st.1 ++ [iAt cls e.2.toNat]) _ = _
      rw [ixL_app2 hin']; simp [kyC]
     unfold rowQ
     rw [List.filterMap_cons, if_pos hu, e9, List.append_assoc]; rfl
  ·have es : mkStep use cls st e = st := by unfold mkStep; rw [if_neg hu]
   rw [es] at h1 h3 h4 ⊢
   refine ⟨t, h1, fun s hs => ?_, fun x hx hux => ?_, fun Q u hQ => ?_⟩
   ·obtain ⟨x, hx, h⟩ := h2 s hs; exact ⟨x, List.mem_cons_of_mem _ hx, h⟩
   ·rcases List.mem_cons.1 hx with rfl | hx
    ·exact absurd hux hu
    ·exact h3 x hx hux
   ·rw [h4 Q u hQ]
    unfold rowQ
    rw [List.filterMap_cons, if_neg hu]
def mkAll (m : List Sta) (use : List Bool) (cls Q : List Int) (a b : Nat) : List Sta := (List.range' a (b - a)).map fun k => ((mAt m (iAt Q k).toNat).1, rowQ use cls Q (mAt m (iAt Q k).toNat).2)
structure QEnd (m : List Sta) (use : List Bool) (cls : List Int) (Q : List Int) : Prop where
 ok : QOk m.length cls Q
 cl : ∀ k, k < Q.length → ∀ e ∈ (mAt m (iAt Q k).toNat).2, bAt use e.2.toNat = true → inL (kyC cls Q) (iAt cls e.2.toNat) = true
 us : ∀ s ∈ Q, bAt use s.toNat = true
theorem iAt_app {q t : List Int} {k : Nat} (h : k < q.length) : iAt (q ++ t) k = iAt q k := by
 show (q ++ t).getD k 0 = q.getD k 0
 rw [List.getD_eq_getElem?_getD, List.getD_eq_getElem?_getD, List.getElem?_append_left h]
theorem iAt_mem {q : List Int} {k : Nat} (h : k < q.length) : iAt q k ∈ q := by
 show q.getD k 0 ∈ q
 rw [List.getD_eq_getElem?_getD, List.getElem?_eq_getElem h]; exact List.getElem_mem _
theorem mkGo_spec {m : List Sta} {use : List Bool} {cls : List Int} (hv : Vm 6 m) : ∀ (f i : Nat) (q : List Int) (out : List Sta), QOk m.length cls q → i ≤ q.length → m.length < f + i → (∀ s ∈ q, bAt use s.toNat = true) → (∀ k, k < i → ∀ e ∈ (mAt m (iAt q k).toNat).2, bAt use e.2.toNat = true → inL (kyC cls q) (iAt cls e.2.toNat) = true) →
  ∃ t, QEnd m use cls (q ++ t) ∧ mkGo m use cls f i q out = out ++ mkAll m use cls (q ++ t) i (q ++ t).length ∧ ∀ k, q.length ≤ k → k < (q ++ t).length → ∃ p, p < k ∧ ∃ e ∈ (mAt m (iAt (q ++ t) p).toNat).2, e.2 = iAt (q ++ t) k
 | 0, i, q, out, hq, hi, hf, _, _ => by have := hq.len; omega
 | f + 1, i, q, out, hq, hi, hf, hus, hcl => by
  rw [mkGo]
  by_cases h : i < q.length
  ·rw [if_pos h]
   have h1 := hq.lt _ (iAt_mem h)
   have hk : (iAt q i).toNat < m.length := by omega
   obtain ⟨t, e1, e2, e3, e4⟩ := mkFold_spec use cls (mAt m (iAt q i).toNat).2 (q, [])
   have e1 : (mkRow m use cls q (iAt q i).toNat).1 = q ++ t := e1
   have hq2 : QOk m.length cls (q ++ t) := by
    have := mkFold_ok (use := use) (cls := cls) (n := m.length) (mAt m (iAt q i).toNat).2 (q, []) (fun e he => by have := hv.edge _ hk e he; omega) hq
    rw [← e1]; exact this
   have hus2 : ∀ s ∈ q ++ t, bAt use s.toNat = true := fun s hs => by
    rcases List.mem_append.1 hs with h2 | h2
    ·exact hus s h2
    ·obtain ⟨_, _, _, h3⟩ := e2 s h2; exact h3
   have hcl2 : ∀ k, k < i + 1 → ∀ e ∈ (mAt m (iAt (q ++ t) k).toNat).2, bAt use e.2.toNat = true → inL (kyC cls (q ++ t)) (iAt cls e.2.toNat) = true := fun k hk2 e he hu => by
    rw [iAt_app (by omega)] at he
    rcases Nat.lt_or_ge k i with h2 | h2
    ·rw [kyC_app]; exact inL_appL (hcl k h2 e he hu)
    ·obtain rfl : k = i := by omega
     exact e3 e he hu
   rw [e1]
   obtain ⟨u, g1, g2, g3⟩ := mkGo_spec hv f (i + 1) (q ++ t) (out ++ [((mAt m (iAt q i).toNat).1, (mkRow m use cls q (iAt q i).toNat).2)]) hq2 (by rw [List.length_append]; omega) (by omega) hus2 hcl2
   have eQ : q ++ t ++ u = q ++ (t ++ u) := List.append_assoc ..
   have e5 : (mkRow m use cls q (iAt q i).toNat).2 = rowQ use cls (q ++ t ++ u) (mAt m (iAt q i).toNat).2 := by
    have := e4 (q ++ t ++ u) u rfl
    rw [List.nil_append] at this
    exact this
   rw [eQ] at g1 g2 g3 e5
   refine ⟨t ++ u, g1, ?_, fun k hk1 hk2 => ?_⟩
   ·rw [g2, e5, List.append_assoc]
    congr 1
    unfold mkAll
    have e6 : (q ++ (t ++ u)).length - i = ((q ++ (t ++ u)).length - (i + 1)) + 1 := by rw [List.length_append]; omega
    rw [e6, List.range'_succ, List.map_cons, iAt_app h]; rfl
   ·rcases Nat.lt_or_ge k (q ++ t).length with h2 | h2
    ·have hs : iAt (q ++ (t ++ u)) k ∈ t := by
      rw [← eQ, iAt_app h2]
      show (q ++ t).getD k 0 ∈ t
      rw [List.getD_eq_getElem?_getD, List.getElem?_append_right hk1, List.getElem?_eq_getElem (by rw [List.length_append] at h2; omega)]
      exact List.getElem_mem _
     obtain ⟨e, he, hes, _⟩ := e2 _ hs
     exact ⟨i, by omega, e, by rw [iAt_app h]; exact he, hes⟩
    ·exact g3 k h2 hk2
  ·rw [if_neg h]
   obtain rfl : i = q.length := by omega
   refine ⟨[], ?_, ?_, fun k hk1 hk2 => by rw [List.append_nil] at hk2; omega⟩
   ·rw [List.append_nil]; exact ⟨hq, hcl, hus⟩
   ·unfold mkAll; rw [List.append_nil, Nat.sub_self]; simp
theorem makeM_spec {m : List Sta} (hv : Vm 6 m) (h0 : bAt (useM m) 0 = true) : ∃ Q, QEnd m (useM m) (clF m (useM m)) Q ∧ makeM m = mkAll m (useM m) (clF m (useM m)) Q 0 Q.length ∧ 0 < Q.length ∧ iAt Q 0 = 0 ∧ ∀ k, 1 ≤ k → k < Q.length → ∃ p, p < k ∧ ∃ e ∈ (mAt m (iAt Q p).toNat).2, e.2 = iAt Q k := by
 have hp := hv.pos
 obtain ⟨t, g1, g2, g3⟩ := mkGo_spec (use := useM m) (cls := clF m (useM m)) hv (m.length + 1) 0 [0] [] ⟨by simp [kyC], fun s hs => by rw [List.mem_singleton.1 hs]; omega⟩ (Nat.zero_le _) (by omega) (fun s hs => by rw [List.mem_singleton.1 hs]; exact h0) (fun k hk => absurd hk (by omega))
 refine ⟨[0] ++ t, g1, ?_, by simp, rfl, fun k h1 h2 => g3 k h1 h2⟩
 unfold makeM
 rw [if_pos h0, g2]; rfl
theorem makeM_none {m : List Sta} (h0 : bAt (useM m) 0 = false) : makeM m = [(-1, [])] := by
 unfold makeM; rw [h0]; rfl
end Go.Proofs.YtcpcghnpoekhpaaDoor.A
/- Machines: the least machine tells the same; what it is like. The plain law. -/
set_option linter.unusedSimpArgs false
set_option linter.unusedVariables false
set_option maxRecDepth 100000
set_option maxHeartbeats 4000000
namespace Go.Proofs.YtcpcghnpoekhpaaDoor.A
open Go
section
variable {m : List Sta} {U : List Bool} {K Q : List Int}
theorem rowQ_mem {l : List Eg} {x : Eg} : x ∈ rowQ U K Q l ↔ ∃ e ∈ l, bAt U e.2.toNat = true ∧ x = (e.1, (ixL (kyC K Q) (iAt K e.2.toNat) : Int)) := by
 unfold rowQ
 rw [List.mem_filterMap]
 constructor
 ·rintro ⟨e, he, h⟩
  split at h
  ·rename_i hu; exact ⟨e, he, hu, (Option.some.inj h).symm⟩
  ·cases h
 ·rintro ⟨e, he, hu, rfl⟩
  exact ⟨e, he, by rw [if_pos hu]⟩
theorem rowQ_sorted : ∀ (l : List Eg), (l.Pairwise fun a b => a.1 < b.1) → (rowQ U K Q l).Pairwise fun a b => a.1 < b.1
 | [], _ => List.Pairwise.nil
 | e :: l, h => by
  obtain ⟨h1, h2⟩ := List.pairwise_cons.1 h
  have ih := rowQ_sorted l h2
  have e0 : rowQ U K Q (e :: l) = if bAt U e.2.toNat = true then (e.1, (ixL (kyC K Q) (iAt K e.2.toNat) : Int)) :: rowQ U K Q l else rowQ U K Q l := by
   unfold rowQ
   rw [List.filterMap_cons]
   by_cases hu : bAt U e.2.toNat = true
   ·rw [if_pos hu, if_pos hu]
   ·rw [if_neg hu, if_neg hu]
  rw [e0]
  by_cases hu : bAt U e.2.toNat = true
  ·rw [if_pos hu]
   refine List.pairwise_cons.2 ⟨fun x hx => ?_, ih⟩
   obtain ⟨e2, he2, _, rfl⟩ := rowQ_mem.1 hx
   exact h1 e2 he2
  ·rw [if_neg hu]; exact ih
theorem mkAll_len : (mkAll m U K Q 0 Q.length).length = Q.length := by simp [mkAll]
theorem mkAll_at {k : Nat} (hk : k < Q.length) : mAt (mkAll m U K Q 0 Q.length) k = ((mAt m (iAt Q k).toNat).1, rowQ U K Q (mAt m (iAt Q k).toNat).2) := by
 show (mkAll m U K Q 0 Q.length).getD k (0, []) = _
 unfold mkAll
 rw [Nat.sub_zero, List.getD_eq_getElem?_getD, List.getElem?_map, List.getElem?_range' (by omega)]
 simp
theorem kyC_len : (kyC K Q).length = Q.length := by simp [kyC]
theorem kyC_at {k : Nat} (hk : k < Q.length) : (kyC K Q)[k]'(by rw [kyC_len]; exact hk) = iAt K (iAt Q k).toNat := by
 have e : iAt Q k = Q[k] := by show Q.getD k 0 = _; rw [List.getD_eq_getElem?_getD, List.getElem?_eq_getElem hk]; rfl
 rw [e]; simp [kyC]
end
structure MkOk (m x : List Sta) (Q : List Int) : Prop where
 len : x.length = Q.length
 at_ : ∀ k, k < Q.length → mAt x k = ((mAt m (iAt Q k).toNat).1, rowQ (useM m) (clF m (useM m)) Q (mAt m (iAt Q k).toNat).2)
 qe : QEnd m (useM m) (clF m (useM m)) Q
 pos : 0 < Q.length
 zero : iAt Q 0 = 0
 prev : ∀ k, 1 ≤ k → k < Q.length → ∃ p, p < k ∧ ∃ e ∈ (mAt m (iAt Q p).toNat).2, e.2 = iAt Q k
theorem mkOk_of {m : List Sta} (hv : Vm 6 m) (h0 : bAt (useM m) 0 = true) : ∃ Q, MkOk m (makeM m) Q := by
 obtain ⟨Q, h1, h2, h3, h4, h5⟩ := makeM_spec hv h0
 exact ⟨Q, by rw [h2, mkAll_len], fun k hk => by rw [h2, mkAll_at hk], h1, h3, h4, h5⟩
section
variable {m x : List Sta} {Q : List Int}
theorem MkOk.lt (h : MkOk m x Q) {k : Nat} (hk : k < Q.length) : (iAt Q k).toNat < m.length ∧ ((iAt Q k).toNat : Int) = iAt Q k := by
 have := h.qe.ok.lt _ (iAt_mem hk); omega
theorem MkOk.us (h : MkOk m x Q) {k : Nat} (hk : k < Q.length) : bAt (useM m) (iAt Q k).toNat = true := h.qe.us _ (iAt_mem hk)
theorem MkOk.ix (h : MkOk m x Q) {k : Nat} (hk : k < Q.length) {e : Eg} (he : e ∈ (mAt m (iAt Q k).toNat).2) (hu : bAt (useM m) e.2.toNat = true) : ixL (kyC (clF m (useM m)) Q) (iAt (clF m (useM m)) e.2.toNat) < Q.length ∧ iAt (clF m (useM m)) (iAt Q (ixL (kyC (clF m (useM m)) Q) (iAt (clF m (useM m)) e.2.toNat))).toNat = iAt (clF m (useM m)) e.2.toNat := by
 have hin := h.qe.cl k hk e he hu
 have hl := ixL_lt hin
 rw [kyC_len] at hl
 refine ⟨hl, ?_⟩
 rw [← kyC_at hl]
 exact ixL_get hin
theorem MkOk.vm (hv : Vm 6 m) (h : MkOk m x Q) : Vm 6 x := by
 refine ⟨by rw [h.len]; exact h.pos, fun k hk => ?_, fun k hk e he => ?_, fun k hk => ?_⟩
 ·rw [h.len] at hk; rw [h.at_ k hk]; exact hv.out _ (h.lt hk).1
 ·rw [h.len] at hk
  rw [h.at_ k hk] at he
  obtain ⟨e2, he2, hu, rfl⟩ := rowQ_mem.1 he
  have h1 := hv.edge _ (h.lt hk).1 e2 he2
  have h2 := (h.ix hk he2 hu).1
  rw [h.len]
  dsimp only
  omega
 ·rw [h.len] at hk; rw [h.at_ k hk]; exact rowQ_sorted _ (hv.rise _ (h.lt hk).1)
theorem MkOk.sim (hv : Vm 6 m) (h : MkOk m x Q) : ∀ (w : List Int) (s k : Nat), s < m.length → bAt (useM m) s = true → k < Q.length → iAt (clF m (useM m)) s = iAt (clF m (useM m)) (iAt Q k).toNat → tellS m s w = tellS x k w := by
 have hvx := h.vm hv
 intro w
 induction w with
 | nil =>
  intro s k hs us hk hc
  have h1 := sgB_iff.1 ((clF_same hs (h.lt hk).1 us (h.us hk)).1 hc)
  show outM m s = outM x k
  rw [Vm.out_at hs, Vm.out_at (by rw [h.len]; exact hk), h.at_ k hk]; exact h1.2.1
 | cons c w ih =>
  intro s k hs us hk hc
  have hkx : k < x.length := by rw [h.len]; exact hk
  obtain ⟨hq1, hq2⟩ := h.lt hk
  have h1 := sgB_iff.1 ((clF_same hs hq1 us (h.us hk)).1 hc)
  -- an edge of the state with a needed target, and one of the row
  have pair : ∀ e ∈ (mAt m s).2, ∀ e2 ∈ (mAt m (iAt Q k).toNat).2, e.1 = c → e2.1 = c → bAt (useM m) e.2.toNat = true → bAt (useM m) e2.2.toNat = true → iAt (clF m (useM m)) e.2.toNat = iAt (clF m (useM m)) e2.2.toNat → tellS m s (c :: w) = tellS x k (c :: w) := by
   intro e he e2 he2 hec he2c hu hu2 hcl
   have g1 := hv.edge s hs e he
   obtain ⟨i1, i2⟩ := h.ix hk he2 hu2
   have hm : (e2.1, (ixL (kyC (clF m (useM m)) Q) (iAt (clF m (useM m)) e2.2.toNat) : Int)) ∈ (mAt x k).2 := by
    rw [h.at_ k hk]; exact rowQ_mem.2 ⟨e2, he2, hu2, rfl⟩
   have gx := hvx.go hkx hm
   have gm := hv.go hs he
   rw [hec] at gm
   dsimp only at gx
   rw [he2c] at gx
   rw [tell_cons, tell_cons, gm, gx]
   have := ih e.2.toNat _ (by omega) hu i1 (hcl.trans i2.symm)
   rw [show ((e.2.toNat : Nat) : Int) = e.2 by omega] at this
   exact this
  by_cases h0 : tellS m s (c :: w) = -1
  ·by_cases h9 : tellS x k (c :: w) = -1
   ·rw [h0, h9]
   ·have g1 := tells_go h9
    have g2 := go_mem hkx g1
    rw [h.at_ k hk] at g2
    obtain ⟨e2, he2, hu2, hx⟩ := rowQ_mem.1 g2
    have hc2 : c = e2.1 := congrArg Prod.fst hx
    have hm : (e2.1, iAt (clF m (useM m)) e2.2.toNat) ∈ sgP (useM m) (clF m (useM m)) (mAt m (iAt Q k).toNat).2 := sgP_mem.2 ⟨e2, he2, hu2, rfl⟩
    rw [← h1.2.2] at hm
    obtain ⟨e, he, hu, hy⟩ := sgP_mem.1 hm
    obtain ⟨hy1, hy2⟩ := Prod.mk.inj hy
    exact pair e he e2 he2 (hy1.symm.trans hc2.symm) hc2.symm hu hu2 hy2.symm
  ·have g1 := tells_go h0
   have g2 := go_mem hs g1
   have g3 := hv.edge s hs _ g2
   dsimp only at g3
   have ejc : (((goM m s c).toNat : Nat) : Int) = goM m s c := by omega
   have hu : bAt (useM m) (goM m s c).toNat = true := (use_iff hv (by omega)).2 ⟨rc_go hs ((use_iff hv hs).1 us).1 g1, w, by rw [ejc]; rw [tell_cons] at h0; exact h0⟩
   have hm : (c, iAt (clF m (useM m)) (goM m s c).toNat) ∈ sgP (useM m) (clF m (useM m)) (mAt m s).2 := sgP_mem.2 ⟨_, g2, hu, rfl⟩
   rw [h1.2.2] at hm
   obtain ⟨e2, he2, hu2, hx⟩ := sgP_mem.1 hm
   have hx1 : c = e2.1 := congrArg Prod.fst hx
   have hx2 : iAt (clF m (useM m)) (goM m s c).toNat = iAt (clF m (useM m)) e2.2.toNat := congrArg Prod.snd hx
   exact pair _ g2 e2 he2 rfl hx1.symm hu hu2 hx2
theorem MkOk.tell (hv : Vm 6 m) (h : MkOk m x Q) {k : Nat} (hk : k < Q.length) (w : List Int) : tellS m (iAt Q k) w = tellS x k w := by
 have := h.sim hv w _ k (h.lt hk).1 (h.us hk) hk rfl
 rwa [(h.lt hk).2] at this
end
theorem tell_none (w : List Int) : tellS [(-1, [])] 0 w = -1 := by
 cases w with
 | nil => rfl
 | cons c w =>
  rw [tell_cons]
  exact tell_no w (by show ¬ (0 ≤ goM [(-1, [])] 0 c ∧ _); have : goM [(-1, [])] 0 c = -1 := rfl; rw [this]; omega)
theorem vm_none : Vm 6 [(-1, [])] := vm_iff.1 (by decide)
theorem make_like {m : List Sta} (hv : Vm 6 m) : Vm 6 (makeM m) ∧ ∀ w, tellS m 0 w = tellS (makeM m) 0 w := by
 rcases Bool.eq_false_or_eq_true (bAt (useM m) 0) with h0 | h0
 ·obtain ⟨Q, h⟩ := mkOk_of hv h0
  refine ⟨h.vm hv, fun w => ?_⟩
  have := h.tell hv h.pos w
  rwa [h.zero] at this
 ·rw [makeM_none h0]
  refine ⟨vm_none, fun w => ?_⟩
  rw [tell_none]
  apply Classical.byContradiction
  intro hne
  have : bAt (useM m) 0 = true := (use_iff hv hv.pos).2 ⟨.zero, w, hne⟩
  rw [h0] at this; cases this
end Go.Proofs.YtcpcghnpoekhpaaDoor.A
/- MiniSame: the law's walk. -/
set_option linter.unusedSimpArgs false
set_option linter.unusedVariables false
set_option maxRecDepth 100000
set_option maxHeartbeats 4000000
namespace Go.Proofs.YtcpcghnpoekhpaaDoor.A
open Go
set_option linter.unusedVariables false
theorem MOk.make {m : List Sta} (h : MOk m) : MOk (makeM m) := by
 obtain ⟨h1, h2⟩ := makeM_sz h.v h.e
 refine ⟨(make_like h.v).1, by have := h.n; omega, fun k hk => by rw [mAt_get hk]; exact h2 _ (List.getElem_mem hk), fun k hk => ?_⟩
 rcases Bool.eq_false_or_eq_true (bAt (useM m) 0) with h0 | h0
 ·obtain ⟨Q, hq⟩ := mkOk_of h.v h0
  rw [hq.len] at hk
  rw [hq.at_ k hk]
  exact h.o _ (hq.lt hk).1
 ·have hk9 : k < (makeM m).length := hk
  have e := makeM_none h0
  rw [e] at hk9 ⊢
  have : k = 0 := by have : k < 1 := hk9; omega
  subst this
  show (-1 : Int) ≤ _
  omega
end Go.Proofs.YtcpcghnpoekhpaaDoor.A
