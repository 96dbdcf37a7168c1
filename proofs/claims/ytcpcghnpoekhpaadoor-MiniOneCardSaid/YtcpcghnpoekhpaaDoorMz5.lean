/- What the laws of this seat need, part 5. -/
import Derived.Test.YtcpcghnpoekhpaaDoorMz4
import Derived.Lib.ItoaLen
import Derived.Test.YtcpcghnpoekhpaaDoorProg
import Derived.WalkKit
import Derived.BigCall
import Derived.BigRegion
import Derived.BigQuiet
import Derived.Deep.QuietTactic
import Derived.Lib.Hide
import Derived.Deep.RegionHeld3
import Derived.StillTailTactics
import Derived.Laws.EntriesVeiled
/- Machines: the classes of states: the walk. -/
set_option linter.unusedSimpArgs false
set_option linter.unusedVariables false
set_option maxRecDepth 100000
set_option maxHeartbeats 4000000
namespace Go.Proofs.YtcpcghnpoekhpaaDoor.A
open Go
set_option linter.unusedVariables false
abbrev tI : TypeId := 3
def bookMC (x_itoaS : Int → ByteArray) : Book := fun f xs => match f, xs with
 | 34, [.v false [.val (.int _ n)]] => some (ret1 (.st (vS (x_itoaS n))), [])
 | _, _ => none
theorem itoa_szA {n : Int} (h0 : -9223372036854775808 ≤ n) (h1 : n ≤ 9223372036854775807) : (itoaS n).size ≤ 21 := by
 have e : (itoaS n).size = (Lib.itoa n).length := by unfold itoaS; simp [ByteArray.size]
 rw [e]; exact Lib.itoa_length_le n h0 h1
theorem cls_bound {m : List Sta} {use : List Bool} {o : List Int} : ∀ q : Nat, q < m.length → -1 ≤ iAt (clsL m use o) q ∧ iAt (clsL m use o) q ≤ m.length := fun q hq => by
 rw [cls_at hq]
 split
 ·rename_i hu
  have h1 := ixL_lt (seen_in (m := m) (out := o) hq hu)
  have h2 := seen_le (m := m) (use := use) (out := o) m.length
  omega
 ·omega
theorem pc_classes (m : List Sta) (use : List Bool) (hs : SzM m) (hv : Vm 6 m) (hn : m.length ≤ 1000) (hz : ∀ k, k < m.length → (mAt m k).2.length ≤ 1000) (hO : ∀ k, k < m.length → (mAt m k).1 ≤ 9223372036854775807) (hu : use.length = m.length) :
  PC Tryd.prog T 22 [.v false [.sl (nM m) (mC m)], .v false [.sl (nB use) (bC use)]] (ret1 (.own tI (nM m) (iC (clF m use)))) [] := by
 have n1 := nM_eq m
 have l1 := mC_len m
 have t1 := mC_at m
 have n2 := nB_eq use
 have l2 := bC_len use
 have hR : clF m use = clGo m use (m.length + 1) (List.replicate m.length (-1)) (-1) := rfl
 generalize clF m use = R at *
 have hrl : (repC (nM m) [vI 0]).length = nM m := by rw [iC_rep, iC_len, nI_eq, List.length_replicate]
 refine pc_of tok Tryd.func22 rfl (by rfl) ?_
 obtain ⟨j, hj⟩ : ∃ j : J, j = std Tryd.prog T := ⟨_, rfl⟩
 have hm : Tryd.prog.follows .mixedOrders = true := by kernel_rfl
 generalize y_itoaS : @itoaS = x_itoaS at *
 generalize y_iC : @iC = x_iC at *
 generalize y_bC : @bC = x_bC at *
 generalize y_nB : @nB = x_nB at *
 generalize y_eC : @eC = x_eC at *
 generalize y_nE : @nE = x_nE at *
 generalize y_mC : @mC = x_mC at *
 generalize y_nM : @nM = x_nM at *
 generalize y_sg0 : @sg0 = x_sg0 at *
 (repeat' first | ((first | with_reducible refine tr_cut (fun h => ?_) (fun h => ?_) | refine aw_condj (by cbv) (fun h => ?_) (fun h => ?_)) <;> (try simp (disch := omega) only [hj, std, cmpI, cmpB, satB, Bool.not_eq_true, Bool.not_eq_false, decide_eq_true_eq, decide_eq_false_iff_not, beq_iff_eq, bne_iff_ne, bne_eq_false_iff_eq, beq_eq_false_iff_ne, ne_eq, reduceCtorEq, not_true_eq_false, not_false_eq_true, pl0, if_true, cmpS_eq, cmpS_neq, Bool.not_eq_eq_eq_not, Bool.not_true, Bool.not_false, Bool.not_eq_true', Int.ofNat_eq_natCast, add64, sub64] at h) <;> (try (exfalso; omega))) | (with_reducible refine tr_alt (fun h => ?_) ?_ <;> (try (exfalso; omega))) | (with_reducible first | refine tr_ob ?_ ?_ | refine tr_done ?_) | (refine aw_tr hj tok (bookMC x_itoaS) (by cbv) ?_) | (refine aw_seq fun K hK => ?_) | (refine aw_tr1 hj tok (bookMC x_itoaS) (by cbv) ?_) | (refine aw_skip ?_) | (refine aw_block ?_) | (refine aw_exit ?_) | (refine aw_ret ⟨.inr rfl, ret_okj hj (by cbv) ?_ ?_⟩) | (refine aw_ret ?_) | (with_reducible first | refine th_n ?_ | refine th_r ?_ | refine th_x ?_ | refine blk_n ?_ | refine blk_r ?_ | refine blk_x ?_ | refine blk_y rfl ?_) | (refine ⟨.inr rfl, ret_okj hj (by cbv) ?_ ?_⟩) | (refine ⟨.inl rfl, ret_okj hj (by cbv) ?_ ?_⟩) | (with_reducible first | refine ⟨(_, _, _, _, _, _), by cbv, ?_, ?_⟩ | refine ⟨(_, _, _, _, _), by cbv, ?_, ?_⟩ | refine ⟨(_, _, _, _), by cbv, ?_, ?_⟩ | refine ⟨(_, _), by cbv, ?_, ?_⟩ | refine ⟨_, by cbv, ?_, ?_⟩) | (with_reducible apply_assumption -symm -exfalso only [*]))
 all_goals ((try subst y_itoaS); (try subst y_iC); (try subst y_bC); (try subst y_nB); (try subst y_eC); (try subst y_nE); (try subst y_mC); (try subst y_nM); (try subst y_sg0))
 all_goals (try (repeat' first | with_reducible exact obl0 | (with_reducible refine obl1 ?_ ?_)))
 all_goals (try first | with_reducible exact True.intro | ((first | refine ob_le hj ?_ | refine ob_lei hj ?_ | refine ob_inb hj ?_ | refine ob_pos hj ?_ | refine ob_ne0 hj ?_ | refine ob_eqb hj ?_); (first | rfl | first | omega | (simp only [hj, std]; split <;> omega) | (simp (disch := omega) only [hj, std, cmpI, cmpB, satB, add64, sub64, ite0, pl0, pl2, pl3, sb0, if_true, if_false, eq_self, Int.ofNat_eq_natCast, Int.toNat_natCast] <;> omega) | (simp (disch := omega) [hj, std, cmpI, cmpB, satB, add64, sub64, ite0, pl0, pl2, pl3, sb0, if_true, if_false, eq_self, Int.ofNat_eq_natCast, Int.toNat_natCast] <;> omega))))
 refine aw_lpj hj [(0, .keep), (1, .keep), (5, .own tI), (21, .keep), (22, .keep)] [] (fun (⟨k, u, N, D⟩ : Int × Int × Nat × (List C)) => stOf 112 [(0, .one (.c (.sl (nM m) (mC m)))), (1, .one (.c (.sl (nB use) (bC use)))), (5, .one (.view 5 0)), (21, .one (.c (vI u))), (22, .one (.c (vI k)))] [(5, .loose [.own tI N D])]) (fun (⟨k, u, N, D⟩ : Int × Int × Nat × (List C)) => nM m - k.toNat) (fun (⟨k, u, N, D⟩ : Int × Int × Nat × (List C)) => 0 ≤ k ∧ k ≤ nM m ∧ u = nM m ∧ N = nM m ∧ ∃ o : List Int, D = iC o ∧ o.length = m.length ∧ ∀ q : Nat, (q : Int) < k → iAt o q = -1) ((0, j.ofNat (j.toNat (j.ofNat (nM m))), j.toNat (j.ofNat (nM m)), j.rep (j.toNat (j.ofNat (nM m))) [vI 0])) (by generalize @itoaS = x_itoaS; generalize @iC = x_iC; generalize @bC = x_bC; generalize @nB = x_nB; generalize @eC = x_eC; generalize @nE = x_nE; generalize @mC = x_mC; generalize @nM = x_nM; generalize @sg0 = x_sg0; cbv) ?_ (fun ⟨k, u, N, D⟩ hI => ?_)
 ·simp only [hj, std, Int.ofNat_eq_natCast, Int.toNat_natCast]
  exact ⟨by omega, by omega, by trivial, by trivial, List.replicate (nM m) 0, iC_rep _ _, by simp; omega, fun q hq => absurd hq (by omega)⟩
 obtain ⟨k1, k2, rfl, rfl, o, rfl, ho, hI⟩ := hI
 have lo : (iC o).length = nM m := by rw [iC_len, nI_eq]; omega
 rcases Decidable.em (k < (nM m : Int)) with hk | hk
 ·have f1 : (k + 1).toNat = k.toNat + 1 := by omega
  have hset : setC (iC o) k.toNat [vI (-1)] = iC (o.set k.toNat (-1)) := iC_set o _ (by omega)
  have hst : ∀ q : Nat, (q : Int) < k + 1 → iAt (o.set k.toNat (-1)) q = -1 := fun q hq => by
   rw [iAt_set (by omega)]
   split
   ·rfl
   ·exact hI q (by omega)
  generalize y_itoaS : @itoaS = x_itoaS at *
  generalize y_iC : @iC = x_iC at *
  generalize y_bC : @bC = x_bC at *
  generalize y_nB : @nB = x_nB at *
  generalize y_eC : @eC = x_eC at *
  generalize y_nE : @nE = x_nE at *
  generalize y_mC : @mC = x_mC at *
  generalize y_nM : @nM = x_nM at *
  generalize y_sg0 : @sg0 = x_sg0 at *
  (repeat' first | ((first | with_reducible refine tr_cut (fun h => ?_) (fun h => ?_) | refine aw_condj (by cbv) (fun h => ?_) (fun h => ?_)) <;> (try simp (disch := omega) only [hj, std, cmpI, cmpB, satB, Bool.not_eq_true, Bool.not_eq_false, decide_eq_true_eq, decide_eq_false_iff_not, beq_iff_eq, bne_iff_ne, bne_eq_false_iff_eq, beq_eq_false_iff_ne, ne_eq, reduceCtorEq, not_true_eq_false, not_false_eq_true, pl0, if_true, cmpS_eq, cmpS_neq, Bool.not_eq_eq_eq_not, Bool.not_true, Bool.not_false, Bool.not_eq_true', Int.ofNat_eq_natCast, add64, sub64] at h) <;> (try (exfalso; omega))) | (with_reducible refine tr_alt (fun h => ?_) ?_ <;> (try (exfalso; omega))) | (with_reducible first | refine tr_ob ?_ ?_ | refine tr_done ?_) | (refine aw_tr hj tok (bookMC x_itoaS) (by cbv) ?_) | (refine aw_seq fun K hK => ?_) | (refine aw_tr1 hj tok (bookMC x_itoaS) (by cbv) ?_) | (refine aw_skip ?_) | (refine aw_block ?_) | (refine aw_exit ?_) | (refine aw_ret ⟨.inr rfl, ret_okj hj (by cbv) ?_ ?_⟩) | (refine aw_ret ?_) | (with_reducible first | refine th_n ?_ | refine th_r ?_ | refine th_x ?_ | refine blk_n ?_ | refine blk_r ?_ | refine blk_x ?_ | refine blk_y rfl ?_) | (refine ⟨.inr rfl, ret_okj hj (by cbv) ?_ ?_⟩) | (refine ⟨.inl rfl, ret_okj hj (by cbv) ?_ ?_⟩) | (with_reducible first | refine ⟨(_, _, _, _, _, _), by cbv, ?_, ?_⟩ | refine ⟨(_, _, _, _, _), by cbv, ?_, ?_⟩ | refine ⟨(_, _, _, _), by cbv, ?_, ?_⟩ | refine ⟨(_, _), by cbv, ?_, ?_⟩ | refine ⟨_, by cbv, ?_, ?_⟩) | (with_reducible apply_assumption -symm -exfalso only [*]))
  all_goals ((try subst y_itoaS); (try subst y_iC); (try subst y_bC); (try subst y_nB); (try subst y_eC); (try subst y_nE); (try subst y_mC); (try subst y_nM); (try subst y_sg0))
  all_goals (try (repeat' first | with_reducible exact obl0 | (with_reducible refine obl1 ?_ ?_)))
  all_goals (try first | with_reducible exact True.intro | ((first | refine ob_le hj ?_ | refine ob_lei hj ?_ | refine ob_inb hj ?_ | refine ob_pos hj ?_ | refine ob_ne0 hj ?_ | refine ob_eqb hj ?_); (first | rfl | first | omega | (simp only [hj, std]; split <;> omega) | (simp (disch := omega) only [hj, std, cmpI, cmpB, satB, add64, sub64, ite0, pl0, pl2, pl3, sb0, if_true, if_false, eq_self, lo, Int.ofNat_eq_natCast] <;> omega) | (simp (disch := omega) [hj, std, cmpI, cmpB, satB, add64, sub64, ite0, pl0, pl2, pl3, sb0, if_true, if_false, eq_self, lo, Int.ofNat_eq_natCast] <;> omega))) | ((simp (disch := omega) only [hj, std, add64, ite0]; first | omega | exact ⟨by omega, by omega, by trivial, by trivial, _, hset, by simp; omega, hst⟩)))
 have hoe : o = List.replicate m.length (-1) := list_ext_i (by simp; omega) fun q hq => by
  rw [hI q (by omega)]
  show _ = (List.replicate m.length (-1 : Int)).getD q 0
  rw [List.getD_eq_getElem?_getD, List.getElem?_replicate, if_pos (by omega)]; rfl
 subst hoe
 clear hI lo
 generalize y_itoaS : @itoaS = x_itoaS at *
 generalize y_iC : @iC = x_iC at *
 generalize y_bC : @bC = x_bC at *
 generalize y_nB : @nB = x_nB at *
 generalize y_eC : @eC = x_eC at *
 generalize y_nE : @nE = x_nE at *
 generalize y_mC : @mC = x_mC at *
 generalize y_nM : @nM = x_nM at *
 generalize y_sg0 : @sg0 = x_sg0 at *
 (repeat' first | ((first | with_reducible refine tr_cut (fun h => ?_) (fun h => ?_) | refine aw_condj (by cbv) (fun h => ?_) (fun h => ?_)) <;> (try simp (disch := omega) only [hj, std, cmpI, cmpB, satB, Bool.not_eq_true, Bool.not_eq_false, decide_eq_true_eq, decide_eq_false_iff_not, beq_iff_eq, bne_iff_ne, bne_eq_false_iff_eq, beq_eq_false_iff_ne, ne_eq, reduceCtorEq, not_true_eq_false, not_false_eq_true, pl0, if_true, cmpS_eq, cmpS_neq, Bool.not_eq_eq_eq_not, Bool.not_true, Bool.not_false, Bool.not_eq_true', Int.ofNat_eq_natCast, add64, sub64] at h) <;> (try (exfalso; omega))) | (with_reducible refine tr_alt (fun h => ?_) ?_ <;> (try (exfalso; omega))) | (with_reducible first | refine tr_ob ?_ ?_ | refine tr_done ?_) | (refine aw_tr hj tok (bookMC x_itoaS) (by cbv) ?_) | (refine aw_seq fun K hK => ?_) | (refine aw_tr1 hj tok (bookMC x_itoaS) (by cbv) ?_) | (refine aw_skip ?_) | (refine aw_block ?_) | (refine aw_exit ?_) | (refine aw_ret ⟨.inr rfl, ret_okj hj (by cbv) ?_ ?_⟩) | (refine aw_ret ?_) | (with_reducible first | refine th_n ?_ | refine th_r ?_ | refine th_x ?_ | refine blk_n ?_ | refine blk_r ?_ | refine blk_x ?_ | refine blk_y rfl ?_) | (refine ⟨.inr rfl, ret_okj hj (by cbv) ?_ ?_⟩) | (refine ⟨.inl rfl, ret_okj hj (by cbv) ?_ ?_⟩) | (with_reducible first | refine ⟨(_, _, _, _, _, _), by cbv, ?_, ?_⟩ | refine ⟨(_, _, _, _, _), by cbv, ?_, ?_⟩ | refine ⟨(_, _, _, _), by cbv, ?_, ?_⟩ | refine ⟨(_, _), by cbv, ?_, ?_⟩ | refine ⟨_, by cbv, ?_, ?_⟩) | (with_reducible apply_assumption -symm -exfalso only [*]))
 all_goals ((try subst y_itoaS); (try subst y_iC); (try subst y_bC); (try subst y_nB); (try subst y_eC); (try subst y_nE); (try subst y_mC); (try subst y_nM); (try subst y_sg0))
 all_goals (try (repeat' first | with_reducible exact obl0 | (with_reducible refine obl1 ?_ ?_)))
 all_goals (try first | with_reducible exact True.intro | ((first | refine ob_le hj ?_ | refine ob_lei hj ?_ | refine ob_inb hj ?_ | refine ob_pos hj ?_ | refine ob_ne0 hj ?_ | refine ob_eqb hj ?_); (first | rfl | first | omega | (simp only [hj, std]; split <;> omega) | (simp (disch := omega) only [hj, std, cmpI, cmpB, satB, add64, sub64, ite0, pl0, pl2, pl3, sb0, if_true, if_false, eq_self] <;> omega) | (simp (disch := omega) [hj, std, cmpI, cmpB, satB, add64, sub64, ite0, pl0, pl2, pl3, sb0, if_true, if_false, eq_self] <;> omega))))
 refine aw_lpj hj [(0, .keep), (1, .keep), (5, .own tI), (7, .keep)] [] (fun (⟨cnt, D⟩ : Int × (List C)) => stOf 112 [(0, .one (.c (.sl (nM m) (mC m)))), (1, .one (.c (.sl (nB use) (bC use)))), (5, .one (.view 5 0)), (7, .one (.c (vI cnt)))] [(5, .loose [.own tI (nM m) D])]) (fun (⟨cnt, D⟩ : Int × (List C)) => m.length + 1 - (cnt + 1).toNat) (fun (⟨cnt, D⟩ : Int × (List C)) => ∃ (o : List Int) (f : Nat), D = iC o ∧ o.length = m.length ∧ (∀ q : Nat, q < m.length → -1 ≤ iAt o q ∧ iAt o q ≤ m.length) ∧ R = clGo m use f o cnt ∧ -1 ≤ cnt ∧ cnt ≤ ((seenL m use o m.length).length : Int) ∧ (m.length : Int) ≤ f + cnt) ((-1, iC (List.replicate m.length (-1)))) (by generalize @itoaS = x_itoaS; generalize @iC = x_iC; generalize @bC = x_bC; generalize @nB = x_nB; generalize @eC = x_eC; generalize @nE = x_nE; generalize @mC = x_mC; generalize @nM = x_nM; generalize @sg0 = x_sg0; cbv) ?_ (fun ⟨cnt, D⟩ hI => ?_)
 ·refine ⟨_, _, rfl, by simp, fun q hq => ?_, hR, by omega, by omega, by omega⟩
  have e : iAt (List.replicate m.length (-1 : Int)) q = -1 := by
   show (List.replicate m.length (-1 : Int)).getD q 0 = _
   rw [List.getD_eq_getElem?_getD, List.getElem?_replicate, if_pos (by omega)]; rfl
  rw [e]; omega
 obtain ⟨o, f, rfl, ho, hob, hRo, q1, q2, q3⟩ := hI
 have lo : (iC o).length = nM m := by rw [iC_len, nI_eq]; omega
 have hsl := seen_le (m := m) (use := use) (out := o) m.length
 have hstop : ((seenL m use o m.length).length : Int) = cnt → R = clsL m use o := fun h => by
  cases f with
  | zero => exact hRo
  | succ f => rw [hRo]; unfold clGo; rw [if_pos h]
 have hgo : ((seenL m use o m.length).length : Int) ≠ cnt → ∃ g : Nat, R = clGo m use g (clsL m use o) (seenL m use o m.length).length ∧ (m.length : Int) ≤ g + (seenL m use o m.length).length := fun h => by
  cases f with
  | zero => exact absurd (show ((seenL m use o m.length).length : Int) = cnt by omega) h
  | succ f =>
   refine ⟨f, ?_, by omega⟩
   rw [hRo]; rw [clGo]; rw [if_neg h]
 have hmono := cls_mono m use o m.length (Nat.le_refl _)
 have hcb := cls_bound (m := m) (use := use) (o := o)
 have oi := fun q => gi_iC o q
 have oo := fun q (hq : q < m.length) => (ok_iC (by omega) : okK (.int .i64) (cellAt (iC o) q))
 clear hRo hR q3
 generalize y_itoaS : @itoaS = x_itoaS at *
 generalize y_iC : @iC = x_iC at *
 generalize y_bC : @bC = x_bC at *
 generalize y_nB : @nB = x_nB at *
 generalize y_eC : @eC = x_eC at *
 generalize y_nE : @nE = x_nE at *
 generalize y_mC : @mC = x_mC at *
 generalize y_nM : @nM = x_nM at *
 generalize y_sg0 : @sg0 = x_sg0 at *
 (repeat' first | ((first | with_reducible refine tr_cut (fun h => ?_) (fun h => ?_) | refine aw_condj (by cbv) (fun h => ?_) (fun h => ?_)) <;> (try simp (disch := omega) only [hj, std, cmpI, cmpB, satB, Bool.not_eq_true, Bool.not_eq_false, decide_eq_true_eq, decide_eq_false_iff_not, beq_iff_eq, bne_iff_ne, bne_eq_false_iff_eq, beq_eq_false_iff_ne, ne_eq, reduceCtorEq, not_true_eq_false, not_false_eq_true, pl0, if_true, cmpS_eq, cmpS_neq, Bool.not_eq_eq_eq_not, Bool.not_true, Bool.not_false, Bool.not_eq_true', Int.ofNat_eq_natCast, add64, sub64] at h) <;> (try (exfalso; omega))) | (with_reducible refine tr_alt (fun h => ?_) ?_ <;> (try (exfalso; omega))) | (with_reducible first | refine tr_ob ?_ ?_ | refine tr_done ?_) | (refine aw_tr hj tok (bookMC x_itoaS) (by cbv) ?_) | (refine aw_seq fun K hK => ?_) | (refine aw_tr1 hj tok (bookMC x_itoaS) (by cbv) ?_) | (refine aw_skip ?_) | (refine aw_block ?_) | (refine aw_exit ?_) | (refine aw_ret ⟨.inr rfl, ret_okj hj (by cbv) ?_ ?_⟩) | (refine aw_ret ?_) | (with_reducible first | refine th_n ?_ | refine th_r ?_ | refine th_x ?_ | refine blk_n ?_ | refine blk_r ?_ | refine blk_x ?_ | refine blk_y rfl ?_) | (refine ⟨.inr rfl, ret_okj hj (by cbv) ?_ ?_⟩) | (refine ⟨.inl rfl, ret_okj hj (by cbv) ?_ ?_⟩) | (with_reducible first | refine ⟨(_, _, _, _, _, _), by cbv, ?_, ?_⟩ | refine ⟨(_, _, _, _, _), by cbv, ?_, ?_⟩ | refine ⟨(_, _, _, _), by cbv, ?_, ?_⟩ | refine ⟨(_, _), by cbv, ?_, ?_⟩ | refine ⟨_, by cbv, ?_, ?_⟩) | (with_reducible apply_assumption -symm -exfalso only [*]))
 all_goals ((try subst y_itoaS); (try subst y_iC); (try subst y_bC); (try subst y_nB); (try subst y_eC); (try subst y_nE); (try subst y_mC); (try subst y_nM); (try subst y_sg0))
 all_goals (try (repeat' first | with_reducible exact obl0 | (with_reducible refine obl1 ?_ ?_)))
 all_goals (try first | with_reducible exact True.intro | ((first | refine ob_le hj ?_ | refine ob_lei hj ?_ | refine ob_inb hj ?_ | refine ob_pos hj ?_ | refine ob_ne0 hj ?_ | refine ob_eqb hj ?_); (first | rfl | first | omega | (simp only [hj, std]; split <;> omega) | (simp (disch := omega) only [hj, std, cmpI, cmpB, satB, add64, sub64, ite0, pl0, pl2, pl3, sb0, if_true, if_false, eq_self, Int.ofNat_eq_natCast, Int.toNat_natCast] <;> omega) | (simp (disch := omega) [hj, std, cmpI, cmpB, satB, add64, sub64, ite0, pl0, pl2, pl3, sb0, if_true, if_false, eq_self, Int.ofNat_eq_natCast, Int.toNat_natCast] <;> omega))))
 refine aw_lpj hj [(0, .keep), (1, .keep), (5, .own tI), (7, .keep), (8, .map), (9, .own tI), (33, .keep), (34, .keep), (35, .keep)] [] (fun (⟨i, u, gm, N, E⟩ : Int × Int × GM × Nat × (List C)) => stOf 112 [(0, .one (.c (.sl (nM m) (mC m)))), (1, .one (.c (.sl (nB use) (bC use)))), (5, .one (.view 5 0)), (7, .one (.c (vI cnt))), (8, .one (.mv 8 0)), (9, .one (.view 9 0)), (33, .one (.c (.sl (nM m) (mC m)))), (34, .one (.c (vI u))), (35, .one (.c (vI i)))] [(5, .loose [.own tI (nM m) (iC o)]), (8, .loose [.map .str gm]), (9, .loose [.own tI N E])]) (fun (⟨i, u, gm, N, E⟩ : Int × Int × GM × Nat × (List C)) => nM m - i.toNat) (fun (⟨i, u, gm, N, E⟩ : Int × Int × GM × Nat × (List C)) => 0 ≤ i ∧ i ≤ nM m ∧ u = nM m ∧ N = nM m ∧ E = iC (nxtL m use o i.toNat) ∧ MapA Value.string gm (seenL m use o i.toNat)) ((0, j.ofNat (nM m), j.mnew, j.toNat (j.ofNat (nM m)), j.rep (j.toNat (j.ofNat (nM m))) [vI 0])) (by generalize @itoaS = x_itoaS; generalize @iC = x_iC; generalize @bC = x_bC; generalize @nB = x_nB; generalize @eC = x_eC; generalize @nE = x_nE; generalize @mC = x_mC; generalize @nM = x_nM; generalize @sg0 = x_sg0; cbv) ?_ (fun ⟨i, u, gm, N, E⟩ hI => ?_)
 ·simp only [hj, std, Int.ofNat_eq_natCast, Int.toNat_natCast]
  exact ⟨by omega, by omega, by trivial, by trivial, by rw [iC_rep]; show _ = iC (nxtL m use o 0); rw [nxt_zero, n1], MapA.new _⟩
 obtain ⟨i1, i2, rfl, rfl, rfl, hM⟩ := hI
 have lE : (iC (nxtL m use o i.toNat)).length = nM m := by rw [iC_len, nI_eq, nxt_len]; omega
 rcases Decidable.em (i < (nM m : Int)) with hi | hi
 rotate_left
 ·have ei : i.toNat = m.length := by omega
  rw [ei] at hM
  have hE : iC (nxtL m use o i.toNat) = iC (clsL m use o) := by rw [ei]; rfl
  rw [hE] at lE ⊢
  have hlen := hM.len
  have hcl : (clsL m use o).length = m.length := cls_len
  generalize y_itoaS : @itoaS = x_itoaS at *
  generalize y_iC : @iC = x_iC at *
  generalize y_bC : @bC = x_bC at *
  generalize y_nB : @nB = x_nB at *
  generalize y_eC : @eC = x_eC at *
  generalize y_nE : @nE = x_nE at *
  generalize y_mC : @mC = x_mC at *
  generalize y_nM : @nM = x_nM at *
  generalize y_sg0 : @sg0 = x_sg0 at *
  (repeat' first | ((first | with_reducible refine tr_cut (fun h => ?_) (fun h => ?_) | refine aw_condj (by cbv) (fun h => ?_) (fun h => ?_)) <;> (try simp (disch := omega) only [hj, std, cmpI, cmpB, satB, Bool.not_eq_true, Bool.not_eq_false, decide_eq_true_eq, decide_eq_false_iff_not, beq_iff_eq, bne_iff_ne, bne_eq_false_iff_eq, beq_eq_false_iff_ne, ne_eq, reduceCtorEq, not_true_eq_false, not_false_eq_true, pl0, if_true, cmpS_eq, cmpS_neq, Bool.not_eq_eq_eq_not, Bool.not_true, Bool.not_false, Bool.not_eq_true', Int.ofNat_eq_natCast, hlen, add64, sub64] at h) <;> (try (exfalso; omega))) | (with_reducible refine tr_alt (fun h => ?_) ?_ <;> (try (exfalso; omega))) | (with_reducible first | refine tr_ob ?_ ?_ | refine tr_done ?_) | (refine aw_tr hj tok (bookMC x_itoaS) (by cbv) ?_) | (refine aw_seq fun K hK => ?_) | (refine aw_tr1 hj tok (bookMC x_itoaS) (by cbv) ?_) | (refine aw_skip ?_) | (refine aw_block ?_) | (refine aw_exit ?_) | (refine aw_ret ⟨.inr rfl, ret_okj hj (by cbv) ?_ ?_⟩) | (refine aw_ret ?_) | (with_reducible first | refine th_n ?_ | refine th_r ?_ | refine th_x ?_ | refine blk_n ?_ | refine blk_r ?_ | refine blk_x ?_ | refine blk_y rfl ?_) | (refine ⟨.inr rfl, ret_okj hj (by cbv) ?_ ?_⟩) | (refine ⟨.inl rfl, ret_okj hj (by cbv) ?_ ?_⟩) | (with_reducible first | refine ⟨(_, _, _, _, _, _), by cbv, ?_, ?_⟩ | refine ⟨(_, _, _, _, _), by cbv, ?_, ?_⟩ | refine ⟨(_, _, _, _), by cbv, ?_, ?_⟩ | refine ⟨(_, _), by cbv, ?_, ?_⟩ | refine ⟨_, by cbv, ?_, ?_⟩) | (with_reducible apply_assumption -symm -exfalso only [*]))
  all_goals ((try subst y_itoaS); (try subst y_iC); (try subst y_bC); (try subst y_nB); (try subst y_eC); (try subst y_nE); (try subst y_mC); (try subst y_nM); (try subst y_sg0))
  all_goals (try (repeat' first | with_reducible exact obl0 | (with_reducible refine obl1 ?_ ?_)))
  all_goals (try first | with_reducible exact True.intro | ((first | refine ob_le hj ?_ | refine ob_lei hj ?_ | refine ob_inb hj ?_ | refine ob_pos hj ?_ | refine ob_ne0 hj ?_ | refine ob_eqb hj ?_); (first | rfl | first | omega | (simp only [hj, std]; split <;> omega) | (simp (disch := omega) only [hj, std, cmpI, cmpB, satB, add64, sub64, ite0, pl0, pl2, pl3, sb0, if_true, if_false, eq_self, hlen] <;> omega) | (simp (disch := omega) [hj, std, cmpI, cmpB, satB, add64, sub64, ite0, pl0, pl2, pl3, sb0, if_true, if_false, eq_self, hlen] <;> omega))) | ((rw [hstop (by omega)]; exact rfl)) | ((simp (disch := omega) only [hj, std, hlen, Int.ofNat_eq_natCast]; first | omega | (obtain ⟨g, e1, e2⟩ := hgo (by omega); exact ⟨_, g, rfl, hcl, hcb, e1, by omega, by omega, e2⟩))))
 have f1 : (i + 1).toNat = i.toNat + 1 := by omega
 obtain ⟨c0, c1⟩ := t1 i.toNat (by omega)
 have hzi := hz i.toNat (by omega)
 have hOi := hO i.toNat (by omega)
 have hvo := hv.out i.toNat (by omega)
 have hve := hv.edge i.toNat (by omega)
 have hbi := hob i.toNat (by omega)
 have oi0 := oi i.toNat
 have oo0 := oo i.toNat (by omega)
 have ub0 := gb_bC use i.toNat
 have uo0 : okK .bool (cellAt (bC use) i.toNat) := ok_bC (by omega)
 have hsg : sgB m use o i.toNat = (mAt m i.toNat).2.foldl (sgAdd use o) (sg0 (iAt o i.toNat) (mAt m i.toNat).1) := rfl
 have hse : seenL m use o (i + 1).toNat = if bAt use i.toNat = true ∧ inL (seenL m use o i.toNat) (sgB m use o i.toNat) = false then seenL m use o i.toNat ++ [sgB m use o i.toNat] else seenL m use o i.toNat := by rw [f1]; rfl
 have hnx := fun v => @nxt_set m use o i.toNat (by omega) v
 rw [← f1] at hnx
 have g0 : gi (cellAt (mC m) (i.toNat * 2)) = (mAt m i.toNat).1 := by rw [c0]; rfl
 have g1 : gn (cellAt (mC m) (i.toNat * 2 + 1)) = nE (mAt m i.toNat).2 := by rw [c1]; rfl
 have g2 : gc (cellAt (mC m) (i.toNat * 2 + 1)) = eC (mAt m i.toNat).2 := by rw [c1]; rfl
 have hs1 : setC (iC (nxtL m use o i.toNat)) i.toNat [vI (-1)] = iC ((nxtL m use o i.toNat).set i.toNat (-1)) := iC_set _ _ (by rw [nxt_len]; omega)
 have ls1 : (iC ((nxtL m use o i.toNat).set i.toNat (-1))).length = nM m := by rw [iC_len, nI_eq, List.length_set, nxt_len]; omega
 have hs2 : ∀ x : Int, setC (iC ((nxtL m use o i.toNat).set i.toNat (-1))) i.toNat [vI x] = iC ((nxtL m use o i.toNat).set i.toNat x) := fun x => by rw [iC_set _ _ (by rw [List.length_set, nxt_len]; omega), List.set_set]
 generalize (mAt m i.toNat).1 = mo at *
 generalize (mAt m i.toNat).2 = b at *
 have hbn := nE_eq b
 have hbc := eC_len b
 have hba := eC_at b
 rcases Bool.eq_false_or_eq_true (bAt use i.toNat) with hui | hui
 rotate_left
 ·rw [hui] at ub0 hse hnx
  have hse : seenL m use o (i + 1).toNat = seenL m use o i.toNat := by rw [hse]; exact if_neg (fun h => by cases h.1)
  have hE := hnx (-1) (by rw [if_neg (by decide)])
  rw [← hse] at hM
  clear hstop hgo hsg hnx hse
  generalize y_itoaS : @itoaS = x_itoaS at *
  generalize y_iC : @iC = x_iC at *
  generalize y_bC : @bC = x_bC at *
  generalize y_nB : @nB = x_nB at *
  generalize y_eC : @eC = x_eC at *
  generalize y_nE : @nE = x_nE at *
  generalize y_mC : @mC = x_mC at *
  generalize y_nM : @nM = x_nM at *
  generalize y_sg0 : @sg0 = x_sg0 at *
  (repeat' first | ((first | with_reducible refine tr_cut (fun h => ?_) (fun h => ?_) | refine aw_condj (by cbv) (fun h => ?_) (fun h => ?_)) <;> (try simp (disch := omega) only [hj, std, cmpI, cmpB, satB, Bool.not_eq_true, Bool.not_eq_false, decide_eq_true_eq, decide_eq_false_iff_not, beq_iff_eq, bne_iff_ne, bne_eq_false_iff_eq, beq_eq_false_iff_ne, ne_eq, reduceCtorEq, not_true_eq_false, not_false_eq_true, pl0, if_true, cmpS_eq, cmpS_neq, Bool.not_eq_eq_eq_not, Bool.not_true, Bool.not_false, Bool.not_eq_true', ub0, ite0, Int.ofNat_eq_natCast, add64, sub64] at h) <;> (try (exfalso; omega))) | (with_reducible refine tr_alt (fun h => ?_) ?_ <;> (try (exfalso; omega))) | (with_reducible first | refine tr_ob ?_ ?_ | refine tr_done ?_) | (refine aw_tr hj tok (bookMC x_itoaS) (by cbv) ?_) | (refine aw_seq fun K hK => ?_) | (refine aw_tr1 hj tok (bookMC x_itoaS) (by cbv) ?_) | (refine aw_skip ?_) | (refine aw_block ?_) | (refine aw_exit ?_) | (refine aw_ret ⟨.inr rfl, ret_okj hj (by cbv) ?_ ?_⟩) | (refine aw_ret ?_) | (with_reducible first | refine th_n ?_ | refine th_r ?_ | refine th_x ?_ | refine blk_n ?_ | refine blk_r ?_ | refine blk_x ?_ | refine blk_y rfl ?_) | (refine ⟨.inr rfl, ret_okj hj (by cbv) ?_ ?_⟩) | (refine ⟨.inl rfl, ret_okj hj (by cbv) ?_ ?_⟩) | (with_reducible first | refine ⟨(_, _, _, _, _, _), by cbv, ?_, ?_⟩ | refine ⟨(_, _, _, _, _), by cbv, ?_, ?_⟩ | refine ⟨(_, _, _, _), by cbv, ?_, ?_⟩ | refine ⟨(_, _), by cbv, ?_, ?_⟩ | refine ⟨_, by cbv, ?_, ?_⟩) | (with_reducible apply_assumption -symm -exfalso only [*]))
  all_goals ((try subst y_itoaS); (try subst y_iC); (try subst y_bC); (try subst y_nB); (try subst y_eC); (try subst y_nE); (try subst y_mC); (try subst y_nM); (try subst y_sg0))
  all_goals (try (repeat' first | with_reducible exact obl0 | (with_reducible refine obl1 ?_ ?_)))
  all_goals (try first | with_reducible exact True.intro | ((first | refine ob_le hj ?_ | refine ob_lei hj ?_ | refine ob_inb hj ?_ | refine ob_pos hj ?_ | refine ob_ne0 hj ?_ | refine ob_eqb hj ?_); (first | rfl | first | omega | (simp only [hj, std]; split <;> omega) | (simp (disch := omega) only [hj, std, cmpI, cmpB, satB, add64, sub64, ite0, pl0, pl2, pl3, sb0, if_true, if_false, eq_self, l1, l2, lE, ls1] <;> omega) | (simp (disch := omega) [hj, std, cmpI, cmpB, satB, add64, sub64, ite0, pl0, pl2, pl3, sb0, if_true, if_false, eq_self, l1, l2, lE, ls1] <;> omega))) | ((refine ob_ok hj ?_; simp only [hj, std, ite0]; first | exact ⟨_, c0⟩ | exact .inr ⟨_, _, c1⟩ | exact uo0)) | ((simp (disch := omega) only [hj, std, add64, ite0, hs1]; first | omega | exact ⟨by omega, by omega, by trivial, by trivial, by rw [hE], hM⟩)))
 rw [hui] at ub0
 have z1 := itoa_szA (n := iAt o i.toNat) (by omega) (by omega)
 have z2 := itoa_szA (n := mo) (by omega) (by omega)
 have sp1 : (⟨⟨[32]⟩⟩ : ByteArray).size = 1 := rfl
 have co1 : (⟨⟨[58]⟩⟩ : ByteArray).size = 1 := rfl
 generalize y_itoaS : @itoaS = x_itoaS at *
 generalize y_iC : @iC = x_iC at *
 generalize y_bC : @bC = x_bC at *
 generalize y_nB : @nB = x_nB at *
 generalize y_eC : @eC = x_eC at *
 generalize y_nE : @nE = x_nE at *
 generalize y_mC : @mC = x_mC at *
 generalize y_nM : @nM = x_nM at *
 generalize y_sg0 : @sg0 = x_sg0 at *
 (repeat' first | ((first | with_reducible refine tr_cut (fun h => ?_) (fun h => ?_) | refine aw_condj (by cbv) (fun h => ?_) (fun h => ?_)) <;> (try simp (disch := omega) only [hj, std, cmpI, cmpB, satB, Bool.not_eq_true, Bool.not_eq_false, decide_eq_true_eq, decide_eq_false_iff_not, beq_iff_eq, bne_iff_ne, bne_eq_false_iff_eq, beq_eq_false_iff_ne, ne_eq, reduceCtorEq, not_true_eq_false, not_false_eq_true, pl0, if_true, cmpS_eq, cmpS_neq, Bool.not_eq_eq_eq_not, Bool.not_true, Bool.not_false, Bool.not_eq_true', ub0, ite0, Int.ofNat_eq_natCast, add64, sub64] at h) <;> (try (exfalso; omega))) | (with_reducible refine tr_alt (fun h => ?_) ?_ <;> (try (exfalso; omega))) | (with_reducible first | refine tr_ob ?_ ?_ | refine tr_done ?_) | (refine aw_dr1 (id := 20) hj tok hm (bookMC x_itoaS) true [(0, false), (1, false), (2, false), (6, false), (7, false), (8, false), (9, false), (10, false), (3, true), (4, false), (5, false), (11, true), (12, true), (13, true), (14, true)] (by kernel_rfl) (by cbv) ?_) | (refine aw_dr (id := 20) hj tok hm (bookMC x_itoaS) true [(0, false), (1, false), (2, false), (6, false), (7, false), (8, false), (9, false), (10, false), (3, true), (4, false), (5, false), (11, true), (12, true), (13, true), (14, true)] (by kernel_rfl) (by cbv) ?_) | (refine aw_dr1 (id := 15) hj tok hm (bookMC x_itoaS) true [(0, false), (1, false), (2, false), (3, false), (6, false), (7, false), (4, true), (5, false), (8, true), (9, true), (10, true)] (by kernel_rfl) (by cbv) ?_) | (refine aw_dr (id := 15) hj tok hm (bookMC x_itoaS) true [(0, false), (1, false), (2, false), (3, false), (6, false), (7, false), (4, true), (5, false), (8, true), (9, true), (10, true)] (by kernel_rfl) (by cbv) ?_) | (refine aw_tr hj tok (bookMC x_itoaS) (by cbv) ?_) | (refine aw_seq fun K hK => ?_) | (refine aw_tr1 hj tok (bookMC x_itoaS) (by cbv) ?_) | (refine aw_skip ?_) | (refine aw_block ?_) | (refine aw_exit ?_) | (refine aw_ret ⟨.inr rfl, ret_okj hj (by cbv) ?_ ?_⟩) | (refine aw_ret ?_) | (with_reducible first | refine th_n ?_ | refine th_r ?_ | refine th_x ?_ | refine blk_n ?_ | refine blk_r ?_ | refine blk_x ?_ | refine blk_y rfl ?_) | (refine ⟨.inr rfl, ret_okj hj (by cbv) ?_ ?_⟩) | (refine ⟨.inl rfl, ret_okj hj (by cbv) ?_ ?_⟩) | (with_reducible first | refine ⟨(_, _, _, _, _, _), by cbv, ?_, ?_⟩ | refine ⟨(_, _, _, _, _), by cbv, ?_, ?_⟩ | refine ⟨(_, _, _, _), by cbv, ?_, ?_⟩ | refine ⟨(_, _), by cbv, ?_, ?_⟩ | refine ⟨_, by cbv, ?_, ?_⟩) | (with_reducible apply_assumption -symm -exfalso only [*]))
 all_goals ((try subst y_itoaS); (try subst y_iC); (try subst y_bC); (try subst y_nB); (try subst y_eC); (try subst y_nE); (try subst y_mC); (try subst y_nM); (try subst y_sg0))
 all_goals (try (repeat' first | with_reducible exact obl0 | (with_reducible refine obl1 ?_ ?_)))
 all_goals (try first | with_reducible exact True.intro | ((first | refine ob_pc hj ?_ | refine ob_pcn hj ?_); (try rw [hj]); first | exact c_Itoa _ (by simp only [std, oi0]; omega) (by simp only [std, oi0]; omega) | exact c_Itoa _ (by simp only [std, g0]; omega) (by simp only [std, g0]; omega)) | ((first | refine ob_le hj ?_ | refine ob_lei hj ?_ | refine ob_inb hj ?_ | refine ob_pos hj ?_ | refine ob_ne0 hj ?_ | refine ob_eqb hj ?_); (first | rfl | first | omega | (simp only [hj, std]; split <;> omega) | (simp (disch := omega) only [hj, std, cmpI, cmpB, satB, add64, sub64, ite0, pl0, pl2, pl3, sb0, if_true, if_false, eq_self, l1, l2, lE, ls1, lo] <;> omega) | (simp (disch := omega) [hj, std, cmpI, cmpB, satB, add64, sub64, ite0, pl0, pl2, pl3, sb0, if_true, if_false, eq_self, l1, l2, lE, ls1, lo] <;> omega))) | ((refine ob_ok hj ?_; simp only [hj, std, ite0]; first | exact ⟨_, c0⟩ | exact .inr ⟨_, _, c1⟩ | exact uo0 | exact oo0)) | ((refine ob_le hj ?_; simp only [hj, std, ByteArray.size_append, oi0, g0, sp1]; omega)))
 refine aw_lpj hj [(0, .keep), (1, .keep), (5, .own tI), (7, .keep), (8, .map), (9, .own tI), (10, .keep), (12, .keep), (33, .keep), (34, .keep), (35, .keep), (59, .keep), (60, .keep), (61, .keep)] [] (fun (⟨k, sg, bn, bc, q, E2⟩ : Int × ByteArray × Nat × (List C) × Int × (List C)) => stOf 112 [(0, .one (.c (.sl (nM m) (mC m)))), (1, .one (.c (.sl (nB use) (bC use)))), (5, .one (.view 5 0)), (7, .one (.c (vI cnt))), (8, .one (.mv 8 0)), (9, .one (.view 9 0)), (10, .one (.c (vI i))), (12, .one (.c (vS sg))), (33, .one (.c (.sl (nM m) (mC m)))), (34, .one (.c (vI (nM m)))), (35, .one (.c (vI i))), (59, .one (.c (.sl bn bc))), (60, .one (.c (vI q))), (61, .one (.c (vI k)))] [(5, .loose [.own tI (nM m) (iC o)]), (8, .loose [.map .str gm]), (9, .loose [.own tI (nM m) E2])]) (fun (⟨k, sg, bn, bc, q, E2⟩ : Int × ByteArray × Nat × (List C) × Int × (List C)) => nE b - k.toNat) (fun (⟨k, sg, bn, bc, q, E2⟩ : Int × ByteArray × Nat × (List C) × Int × (List C)) => 0 ≤ k ∧ k ≤ nE b ∧ bn = nE b ∧ bc = eC b ∧ q = nE b ∧ E2 = iC ((nxtL m use o i.toNat).set i.toNat (-1)) ∧ sg = (b.take k.toNat).foldl (sgAdd use o) (sg0 (iAt o i.toNat) mo) ∧ (sg.size : Int) ≤ 43 + k * 44) ((0, j.cat (j.cat (itoaS (j.gi (j.cell (iC o) (j.toNat i)))) ⟨⟨[32]⟩⟩) (itoaS (j.gi (j.cell (mC m) (j.mul (j.toNat i) 2)))), j.gn (j.cell (mC m) (j.add (j.mul (j.toNat i) 2) 1)), j.gc (j.cell (mC m) (j.add (j.mul (j.toNat i) 2) 1)), j.ofNat (j.gn (j.cell (mC m) (j.add (j.mul (j.toNat i) 2) 1))), j.set (iC (nxtL m use o i.toNat)) (j.toNat i) [vI (-1)])) (by generalize @itoaS = x_itoaS; generalize @iC = x_iC; generalize @bC = x_bC; generalize @nB = x_nB; generalize @eC = x_eC; generalize @nE = x_nE; generalize @mC = x_mC; generalize @nM = x_nM; generalize @sg0 = x_sg0; cbv) ?_ (fun ⟨k, sg, bn, bc, q, E2⟩ hI => ?_)
 ·simp only [hj, std, Int.ofNat_eq_natCast, g0, g1, g2, oi0, hs1, ByteArray.size_append, sp1]
  exact ⟨by omega, by omega, by trivial, by trivial, by trivial, by trivial, rfl, by omega⟩
 obtain ⟨k1, k2, rfl, rfl, rfl, rfl, hsgk, hsz⟩ := hI
 rcases Decidable.em (k < (nE b : Int)) with hk | hk
 ·obtain ⟨d0, d1⟩ := hba k.toNat (by omega)
  have f2 : (k + 1).toNat = k.toNat + 1 := by omega
  have hem : eAt b k.toNat ∈ b := by rw [eAt_get (by omega)]; exact List.getElem_mem _
  have her := hve _ hem
  have hst : (b.take (k + 1).toNat).foldl (sgAdd use o) (sg0 (iAt o i.toNat) mo) = sgAdd use o sg (eAt b k.toNat) := by rw [f2, take_eg (by omega), List.foldl_append, ← hsgk]; rfl
  have hsA : sgAdd use o sg (eAt b k.toNat) = if bAt use (eAt b k.toNat).2.toNat = true then sg ++ (((spB ++ itoaS (eAt b k.toNat).1) ++ coB) ++ itoaS (iAt o (eAt b k.toNat).2.toNat)) else sg := rfl
  have u0 : gi (cellAt (eC b) (k.toNat * 2)) = (eAt b k.toNat).1 := by rw [d0]; rfl
  have u1 : gi (cellAt (eC b) (k.toNat * 2 + 1)) = (eAt b k.toNat).2 := by rw [d1]; rfl
  generalize sgAdd use o sg (eAt b k.toNat) = sg9 at *
  generalize eAt b k.toNat = X at *
  obtain ⟨et, eg⟩ := X
  dsimp only at her hsA u0 u1 d0 d1
  have ub1 := gb_bC use eg.toNat
  have uo1 : okK .bool (cellAt (bC use) eg.toNat) := ok_bC (by omega)
  have oi1 := oi eg.toNat
  have oo1 := oo eg.toNat (by omega)
  have hb1 := hob eg.toNat (by omega)
  have z3 := itoa_szA (n := et) (by omega) (by omega)
  have z4 := itoa_szA (n := iAt o eg.toNat) (by omega) (by omega)
  clear hba hve hsgk hstop hgo hsg hse hnx hob oi oo hmono hcb
  rcases Bool.eq_false_or_eq_true (bAt use eg.toNat) with hue | hue
  all_goals rw [hue] at hsA ub1
  ·have hsA : sg9 = sg ++ (((spB ++ itoaS et) ++ coB) ++ itoaS (iAt o eg.toNat)) := hsA
   have hz9 : (sg9.size : Int) ≤ 43 + (k + 1) * 44 := by
    rw [hsA]; simp only [ByteArray.size_append, sp1, co1]; omega
   generalize y_itoaS : @itoaS = x_itoaS at *
   generalize y_iC : @iC = x_iC at *
   generalize y_bC : @bC = x_bC at *
   generalize y_nB : @nB = x_nB at *
   generalize y_eC : @eC = x_eC at *
   generalize y_nE : @nE = x_nE at *
   generalize y_mC : @mC = x_mC at *
   generalize y_nM : @nM = x_nM at *
   generalize y_sg0 : @sg0 = x_sg0 at *
   (repeat' first | ((first | with_reducible refine tr_cut (fun h => ?_) (fun h => ?_) | refine aw_condj (by cbv) (fun h => ?_) (fun h => ?_)) <;> (try simp (disch := omega) only [hj, std, cmpI, cmpB, satB, Bool.not_eq_true, Bool.not_eq_false, decide_eq_true_eq, decide_eq_false_iff_not, beq_iff_eq, bne_iff_ne, bne_eq_false_iff_eq, beq_eq_false_iff_ne, ne_eq, reduceCtorEq, not_true_eq_false, not_false_eq_true, pl0, if_true, cmpS_eq, cmpS_neq, Bool.not_eq_eq_eq_not, Bool.not_true, Bool.not_false, Bool.not_eq_true', g1, g2, u0, u1, ub1, ite0, Int.ofNat_eq_natCast, add64, sub64] at h) <;> (try (exfalso; omega))) | (with_reducible refine tr_alt (fun h => ?_) ?_ <;> (try (exfalso; omega))) | (with_reducible first | refine tr_ob ?_ ?_ | refine tr_done ?_) | (refine aw_dr1 (id := 20) hj tok hm (bookMC x_itoaS) true [(0, false), (1, false), (2, false), (6, false), (7, false), (8, false), (9, false), (10, false), (3, true), (4, false), (5, false), (11, true), (12, true), (13, true), (14, true)] (by kernel_rfl) (by cbv) ?_) | (refine aw_dr (id := 20) hj tok hm (bookMC x_itoaS) true [(0, false), (1, false), (2, false), (6, false), (7, false), (8, false), (9, false), (10, false), (3, true), (4, false), (5, false), (11, true), (12, true), (13, true), (14, true)] (by kernel_rfl) (by cbv) ?_) | (refine aw_dr1 (id := 15) hj tok hm (bookMC x_itoaS) true [(0, false), (1, false), (2, false), (3, false), (6, false), (7, false), (4, true), (5, false), (8, true), (9, true), (10, true)] (by kernel_rfl) (by cbv) ?_) | (refine aw_dr (id := 15) hj tok hm (bookMC x_itoaS) true [(0, false), (1, false), (2, false), (3, false), (6, false), (7, false), (4, true), (5, false), (8, true), (9, true), (10, true)] (by kernel_rfl) (by cbv) ?_) | (refine aw_tr hj tok (bookMC x_itoaS) (by cbv) ?_) | (refine aw_seq fun K hK => ?_) | (refine aw_tr1 hj tok (bookMC x_itoaS) (by cbv) ?_) | (refine aw_skip ?_) | (refine aw_block ?_) | (refine aw_exit ?_) | (refine aw_ret ⟨.inr rfl, ret_okj hj (by cbv) ?_ ?_⟩) | (refine aw_ret ?_) | (with_reducible first | refine th_n ?_ | refine th_r ?_ | refine th_x ?_ | refine blk_n ?_ | refine blk_r ?_ | refine blk_x ?_ | refine blk_y rfl ?_) | (refine ⟨.inr rfl, ret_okj hj (by cbv) ?_ ?_⟩) | (refine ⟨.inl rfl, ret_okj hj (by cbv) ?_ ?_⟩) | (with_reducible first | refine ⟨(_, _, _, _, _, _), by cbv, ?_, ?_⟩ | refine ⟨(_, _, _, _, _), by cbv, ?_, ?_⟩ | refine ⟨(_, _, _, _), by cbv, ?_, ?_⟩ | refine ⟨(_, _), by cbv, ?_, ?_⟩ | refine ⟨_, by cbv, ?_, ?_⟩) | (with_reducible apply_assumption -symm -exfalso only [*]))
   all_goals ((try subst y_itoaS); (try subst y_iC); (try subst y_bC); (try subst y_nB); (try subst y_eC); (try subst y_nE); (try subst y_mC); (try subst y_nM); (try subst y_sg0))
   all_goals (try (repeat' first | with_reducible exact obl0 | (with_reducible refine obl1 ?_ ?_)))
   all_goals (try first | with_reducible exact True.intro | ((first | refine ob_pc hj ?_ | refine ob_pcn hj ?_); (try rw [hj]); first | exact c_Itoa _ (by simp only [std, u0]; omega) (by simp only [std, u0]; omega) | exact c_Itoa _ (by simp only [std, u1, oi1]; omega) (by simp only [std, u1, oi1]; omega)) | ((first | refine ob_le hj ?_ | refine ob_lei hj ?_ | refine ob_inb hj ?_ | refine ob_pos hj ?_ | refine ob_ne0 hj ?_ | refine ob_eqb hj ?_); (first | rfl | first | omega | (simp only [hj, std]; split <;> omega) | (simp (disch := omega) only [hj, std, cmpI, cmpB, satB, add64, sub64, ite0, pl0, pl2, pl3, sb0, if_true, if_false, eq_self, l1, l2, lE, ls1, lo, hbc, u1] <;> omega) | (simp (disch := omega) [hj, std, cmpI, cmpB, satB, add64, sub64, ite0, pl0, pl2, pl3, sb0, if_true, if_false, eq_self, l1, l2, lE, ls1, lo, hbc, u1] <;> omega))) | ((refine ob_ok hj ?_; simp only [hj, std, ite0, u1]; first | exact ⟨_, d0⟩ | exact ⟨_, d1⟩ | exact uo1 | exact oo1)) | ((refine ob_le hj ?_; simp only [hj, std, ByteArray.size_append, u0, u1, oi1, sp1, co1]; omega)) | ((simp (disch := omega) only [hj, std, add64, ite0, u0, u1, oi1]; first | omega | exact ⟨by omega, by omega, by trivial, by trivial, by trivial, by trivial, hsA.symm.trans hst.symm, by rw [← hsA]; exact hz9⟩)))
  ·have hsA : sg9 = sg := hsA
   generalize y_itoaS : @itoaS = x_itoaS at *
   generalize y_iC : @iC = x_iC at *
   generalize y_bC : @bC = x_bC at *
   generalize y_nB : @nB = x_nB at *
   generalize y_eC : @eC = x_eC at *
   generalize y_nE : @nE = x_nE at *
   generalize y_mC : @mC = x_mC at *
   generalize y_nM : @nM = x_nM at *
   generalize y_sg0 : @sg0 = x_sg0 at *
   (repeat' first | ((first | with_reducible refine tr_cut (fun h => ?_) (fun h => ?_) | refine aw_condj (by cbv) (fun h => ?_) (fun h => ?_)) <;> (try simp (disch := omega) only [hj, std, cmpI, cmpB, satB, Bool.not_eq_true, Bool.not_eq_false, decide_eq_true_eq, decide_eq_false_iff_not, beq_iff_eq, bne_iff_ne, bne_eq_false_iff_eq, beq_eq_false_iff_ne, ne_eq, reduceCtorEq, not_true_eq_false, not_false_eq_true, pl0, if_true, cmpS_eq, cmpS_neq, Bool.not_eq_eq_eq_not, Bool.not_true, Bool.not_false, Bool.not_eq_true', g1, g2, u0, u1, ub1, ite0, Int.ofNat_eq_natCast, add64, sub64] at h) <;> (try (exfalso; omega))) | (with_reducible refine tr_alt (fun h => ?_) ?_ <;> (try (exfalso; omega))) | (with_reducible first | refine tr_ob ?_ ?_ | refine tr_done ?_) | (refine aw_dr1 (id := 20) hj tok hm (bookMC x_itoaS) true [(0, false), (1, false), (2, false), (6, false), (7, false), (8, false), (9, false), (10, false), (3, true), (4, false), (5, false), (11, true), (12, true), (13, true), (14, true)] (by kernel_rfl) (by cbv) ?_) | (refine aw_dr (id := 20) hj tok hm (bookMC x_itoaS) true [(0, false), (1, false), (2, false), (6, false), (7, false), (8, false), (9, false), (10, false), (3, true), (4, false), (5, false), (11, true), (12, true), (13, true), (14, true)] (by kernel_rfl) (by cbv) ?_) | (refine aw_dr1 (id := 15) hj tok hm (bookMC x_itoaS) true [(0, false), (1, false), (2, false), (3, false), (6, false), (7, false), (4, true), (5, false), (8, true), (9, true), (10, true)] (by kernel_rfl) (by cbv) ?_) | (refine aw_dr (id := 15) hj tok hm (bookMC x_itoaS) true [(0, false), (1, false), (2, false), (3, false), (6, false), (7, false), (4, true), (5, false), (8, true), (9, true), (10, true)] (by kernel_rfl) (by cbv) ?_) | (refine aw_tr hj tok (bookMC x_itoaS) (by cbv) ?_) | (refine aw_seq fun K hK => ?_) | (refine aw_tr1 hj tok (bookMC x_itoaS) (by cbv) ?_) | (refine aw_skip ?_) | (refine aw_block ?_) | (refine aw_exit ?_) | (refine aw_ret ⟨.inr rfl, ret_okj hj (by cbv) ?_ ?_⟩) | (refine aw_ret ?_) | (with_reducible first | refine th_n ?_ | refine th_r ?_ | refine th_x ?_ | refine blk_n ?_ | refine blk_r ?_ | refine blk_x ?_ | refine blk_y rfl ?_) | (refine ⟨.inr rfl, ret_okj hj (by cbv) ?_ ?_⟩) | (refine ⟨.inl rfl, ret_okj hj (by cbv) ?_ ?_⟩) | (with_reducible first | refine ⟨(_, _, _, _, _, _), by cbv, ?_, ?_⟩ | refine ⟨(_, _, _, _, _), by cbv, ?_, ?_⟩ | refine ⟨(_, _, _, _), by cbv, ?_, ?_⟩ | refine ⟨(_, _), by cbv, ?_, ?_⟩ | refine ⟨_, by cbv, ?_, ?_⟩) | (with_reducible apply_assumption -symm -exfalso only [*]))
   all_goals ((try subst y_itoaS); (try subst y_iC); (try subst y_bC); (try subst y_nB); (try subst y_eC); (try subst y_nE); (try subst y_mC); (try subst y_nM); (try subst y_sg0))
   all_goals (try (repeat' first | with_reducible exact obl0 | (with_reducible refine obl1 ?_ ?_)))
   all_goals (try first | with_reducible exact True.intro | ((first | refine ob_le hj ?_ | refine ob_lei hj ?_ | refine ob_inb hj ?_ | refine ob_pos hj ?_ | refine ob_ne0 hj ?_ | refine ob_eqb hj ?_); (first | rfl | first | omega | (simp only [hj, std]; split <;> omega) | (simp (disch := omega) only [hj, std, cmpI, cmpB, satB, add64, sub64, ite0, pl0, pl2, pl3, sb0, if_true, if_false, eq_self, l1, l2, lE, ls1, lo, hbc, u1] <;> omega) | (simp (disch := omega) [hj, std, cmpI, cmpB, satB, add64, sub64, ite0, pl0, pl2, pl3, sb0, if_true, if_false, eq_self, l1, l2, lE, ls1, lo, hbc, u1] <;> omega))) | ((refine ob_ok hj ?_; simp only [hj, std, ite0, u1]; first | exact ⟨_, d0⟩ | exact ⟨_, d1⟩ | exact uo1 | exact oo1)) | ((simp (disch := omega) only [hj, std, add64, ite0]; first | omega | exact ⟨by omega, by omega, by trivial, by trivial, by trivial, by trivial, hsA.symm.trans hst.symm, by omega⟩)))
 have hsgB : sg = sgB m use o i.toNat := by rw [hsg, hsgk, List.take_of_length_le (by omega)]
 have giv : ∀ x : Int, gi (vI x) = x := fun _ => rfl
 have ok2 : ∀ x : Int, okK (.int .i64) (vI x) := fun x => ⟨x, rfl⟩
 rw [← hsgB] at hse hnx
 clear hstop hgo hsg hsgk hba hve hob oi oo hmono hcb
 rcases Bool.eq_false_or_eq_true (inL (seenL m use o i.toNat) sg) with hin | hin
 all_goals rw [hin] at hse
 ·have hse : seenL m use o (i + 1).toNat = seenL m use o i.toNat := by rw [hse]; exact if_neg (fun h => by cases h.2)
  have hhas : mhasC gm.ks (.string sg) = true := by rw [hM.has keqA_str]; exact hin
  have hget := hM.get keqA_str hin
  have hE := hnx (ixL (seenL m use o i.toNat) sg : Nat) (by rw [if_pos hui, hse])
  rw [← hse] at hM
  generalize ((ixL (seenL m use o i.toNat) sg : Nat) : Int) = cv at *
  clear hnx hse
  generalize y_itoaS : @itoaS = x_itoaS at *
  generalize y_iC : @iC = x_iC at *
  generalize y_bC : @bC = x_bC at *
  generalize y_nB : @nB = x_nB at *
  generalize y_eC : @eC = x_eC at *
  generalize y_nE : @nE = x_nE at *
  generalize y_mC : @mC = x_mC at *
  generalize y_nM : @nM = x_nM at *
  generalize y_sg0 : @sg0 = x_sg0 at *
  (repeat' first | ((first | with_reducible refine tr_cut (fun h => ?_) (fun h => ?_) | refine aw_condj (by cbv) (fun h => ?_) (fun h => ?_)) <;> (try simp (disch := omega) only [hj, std, cmpI, cmpB, satB, Bool.not_eq_true, Bool.not_eq_false, decide_eq_true_eq, decide_eq_false_iff_not, beq_iff_eq, bne_iff_ne, bne_eq_false_iff_eq, beq_eq_false_iff_ne, ne_eq, reduceCtorEq, not_true_eq_false, not_false_eq_true, pl0, if_true, cmpS_eq, cmpS_neq, Bool.not_eq_eq_eq_not, Bool.not_true, Bool.not_false, Bool.not_eq_true', g1, hhas, ite0, Int.ofNat_eq_natCast, add64, sub64] at h) <;> (try (exfalso; omega))) | (with_reducible refine tr_alt (fun h => ?_) ?_ <;> (try (exfalso; omega))) | (with_reducible first | refine tr_ob ?_ ?_ | refine tr_done ?_) | (refine aw_tr hj tok (bookMC x_itoaS) (by cbv) ?_) | (refine aw_seq fun K hK => ?_) | (refine aw_tr1 hj tok (bookMC x_itoaS) (by cbv) ?_) | (refine aw_skip ?_) | (refine aw_block ?_) | (refine aw_exit ?_) | (refine aw_ret ⟨.inr rfl, ret_okj hj (by cbv) ?_ ?_⟩) | (refine aw_ret ?_) | (with_reducible first | refine th_n ?_ | refine th_r ?_ | refine th_x ?_ | refine blk_n ?_ | refine blk_r ?_ | refine blk_x ?_ | refine blk_y rfl ?_) | (refine ⟨.inr rfl, ret_okj hj (by cbv) ?_ ?_⟩) | (refine ⟨.inl rfl, ret_okj hj (by cbv) ?_ ?_⟩) | (with_reducible first | refine ⟨(_, _, _, _, _, _), by cbv, ?_, ?_⟩ | refine ⟨(_, _, _, _, _), by cbv, ?_, ?_⟩ | refine ⟨(_, _, _, _), by cbv, ?_, ?_⟩ | refine ⟨(_, _), by cbv, ?_, ?_⟩ | refine ⟨_, by cbv, ?_, ?_⟩) | (with_reducible apply_assumption -symm -exfalso only [*]))
  all_goals ((try subst y_itoaS); (try subst y_iC); (try subst y_bC); (try subst y_nB); (try subst y_eC); (try subst y_nE); (try subst y_mC); (try subst y_nM); (try subst y_sg0))
  all_goals (try (repeat' first | with_reducible exact obl0 | (with_reducible refine obl1 ?_ ?_)))
  all_goals (try first | with_reducible exact True.intro | ((first | refine ob_le hj ?_ | refine ob_lei hj ?_ | refine ob_inb hj ?_ | refine ob_pos hj ?_ | refine ob_ne0 hj ?_ | refine ob_eqb hj ?_); (first | rfl | first | omega | (simp only [hj, std]; split <;> omega) | (simp (disch := omega) only [hj, std, cmpI, cmpB, satB, add64, sub64, ite0, pl0, pl2, pl3, sb0, if_true, if_false, eq_self, l1, l2, lE, ls1, lo] <;> omega) | (simp (disch := omega) [hj, std, cmpI, cmpB, satB, add64, sub64, ite0, pl0, pl2, pl3, sb0, if_true, if_false, eq_self, l1, l2, lE, ls1, lo] <;> omega))) | ((refine ob_ok hj ?_; simp only [hj, std, ite0, hget]; exact ok2 _)) | ((simp (disch := omega) only [hj, std, add64, ite0, hget, giv, hs2]; first | omega | exact ⟨by omega, by omega, by trivial, by trivial, by rw [hE], hM⟩)))
 ·have hse : seenL m use o (i + 1).toNat = seenL m use o i.toNat ++ [sg] := by rw [hse]; exact if_pos ⟨hui, rfl⟩
  have hhas : mhasC gm.ks (.string sg) = false := by rw [hM.has keqA_str]; exact hin
  obtain ⟨w0, hget0, _⟩ := hM.got keqA_str sg
  have hM2 := hM.add keqA_str hin (n := (gm.ks.length : Int)) (by rw [hM.len])
  have hin2 : inL (seenL m use o i.toNat ++ [sg]) sg = true := by rw [inL_app, decide_eq_true rfl, Bool.or_true]
  have hget := hM2.get keqA_str hin2
  have hE := hnx (ixL (seenL m use o i.toNat ++ [sg]) sg : Nat) (by rw [if_pos hui, hse])
  rw [← hse] at hM2 hget hE
  generalize ((ixL (seenL m use o (i + 1).toNat) sg : Nat) : Int) = cv at *
  clear hnx hse hM hin hin2
  generalize y_itoaS : @itoaS = x_itoaS at *
  generalize y_iC : @iC = x_iC at *
  generalize y_bC : @bC = x_bC at *
  generalize y_nB : @nB = x_nB at *
  generalize y_eC : @eC = x_eC at *
  generalize y_nE : @nE = x_nE at *
  generalize y_mC : @mC = x_mC at *
  generalize y_nM : @nM = x_nM at *
  generalize y_sg0 : @sg0 = x_sg0 at *
  (repeat' first | ((first | with_reducible refine tr_cut (fun h => ?_) (fun h => ?_) | refine aw_condj (by cbv) (fun h => ?_) (fun h => ?_)) <;> (try simp (disch := omega) only [hj, std, cmpI, cmpB, satB, Bool.not_eq_true, Bool.not_eq_false, decide_eq_true_eq, decide_eq_false_iff_not, beq_iff_eq, bne_iff_ne, bne_eq_false_iff_eq, beq_eq_false_iff_ne, ne_eq, reduceCtorEq, not_true_eq_false, not_false_eq_true, pl0, if_true, cmpS_eq, cmpS_neq, Bool.not_eq_eq_eq_not, Bool.not_true, Bool.not_false, Bool.not_eq_true', g1, hhas, ite0, Int.ofNat_eq_natCast, add64, sub64] at h) <;> (try (exfalso; omega))) | (with_reducible refine tr_alt (fun h => ?_) ?_ <;> (try (exfalso; omega))) | (with_reducible first | refine tr_ob ?_ ?_ | refine tr_done ?_) | (refine aw_tr hj tok (bookMC x_itoaS) (by cbv) ?_) | (refine aw_seq fun K hK => ?_) | (refine aw_tr1 hj tok (bookMC x_itoaS) (by cbv) ?_) | (refine aw_skip ?_) | (refine aw_block ?_) | (refine aw_exit ?_) | (refine aw_ret ⟨.inr rfl, ret_okj hj (by cbv) ?_ ?_⟩) | (refine aw_ret ?_) | (with_reducible first | refine th_n ?_ | refine th_r ?_ | refine th_x ?_ | refine blk_n ?_ | refine blk_r ?_ | refine blk_x ?_ | refine blk_y rfl ?_) | (refine ⟨.inr rfl, ret_okj hj (by cbv) ?_ ?_⟩) | (refine ⟨.inl rfl, ret_okj hj (by cbv) ?_ ?_⟩) | (with_reducible first | refine ⟨(_, _, _, _, _, _), by cbv, ?_, ?_⟩ | refine ⟨(_, _, _, _, _), by cbv, ?_, ?_⟩ | refine ⟨(_, _, _, _), by cbv, ?_, ?_⟩ | refine ⟨(_, _), by cbv, ?_, ?_⟩ | refine ⟨_, by cbv, ?_, ?_⟩) | (with_reducible apply_assumption -symm -exfalso only [*]))
  all_goals ((try subst y_itoaS); (try subst y_iC); (try subst y_bC); (try subst y_nB); (try subst y_eC); (try subst y_nE); (try subst y_mC); (try subst y_nM); (try subst y_sg0))
  all_goals (try (repeat' first | with_reducible exact obl0 | with_reducible refine obl1 ?_ ?_))
  all_goals (try first | with_reducible exact True.intro | ((first | refine ob_le hj ?_ | refine ob_lei hj ?_ | refine ob_inb hj ?_ | refine ob_pos hj ?_ | refine ob_ne0 hj ?_ | refine ob_eqb hj ?_); (first | rfl | first | omega | (simp only [hj, std]; split <;> omega) | (simp (disch := omega) only [hj, std, cmpI, cmpB, satB, add64, sub64, ite0, pl0, pl2, pl3, sb0, if_true, if_false, eq_self, l1, l2, lE, ls1, lo] <;> omega) | (simp (disch := omega) [hj, std, cmpI, cmpB, satB, add64, sub64, ite0, pl0, pl2, pl3, sb0, if_true, if_false, eq_self, l1, l2, lE, ls1, lo] <;> omega))) | ((refine ob_ok hj ?_; simp only [hj, std, ite0, hget0, hget, Int.ofNat_eq_natCast]; exact ok2 _)) | ((simp (disch := omega) only [hj, std, add64, ite0, hget, giv, hs2, Int.ofNat_eq_natCast]; first | omega | exact ⟨by omega, by omega, by trivial, by trivial, by rw [hE], hM2⟩)))
end Go.Proofs.YtcpcghnpoekhpaaDoor.A
/- Machines: the classes by the parts of signs; the example of the chapter. -/
set_option linter.unusedSimpArgs false
set_option linter.unusedVariables false
set_option maxRecDepth 100000
set_option maxHeartbeats 4000000
namespace Go.Proofs.YtcpcghnpoekhpaaDoor.A
open Go
abbrev Sg := Int × Int × List (Int × Int)
def sgT (m : List Sta) (use : List Bool) (out : List Int) (i : Nat) : Sg := (iAt out i, (mAt m i).1, sgP use out (mAt m i).2)
def enS (s : Sg) : ByteArray := ⟨(Lib.itoa s.1 ++ enc2 ((32, s.2.1) :: enP s.2.2)).toArray⟩
theorem sgB_en (m : List Sta) (use : List Bool) (out : List Int) (i : Nat) : sgB m use out i = enS (sgT m use out i) := by
 apply byL_inj
 rw [sgB_by]
 show _ = (Lib.itoa _ ++ enc2 _).toArray.toList
 rfl
theorem enS_inj {s t : Sg} (h : enS s = enS t) : s = t := by
 have h : (Lib.itoa s.1 ++ enc2 ((32, s.2.1) :: enP s.2.2)).toArray = (Lib.itoa t.1 ++ enc2 ((32, t.2.1) :: enP t.2.2)).toArray := congrArg ByteArray.data h
 have h := congrArg Array.toList h
 have hs : ∀ (a : Int) (l : List (Int × Int)), ∀ x ∈ (32, a) :: enP l, isSep x.1 = true := fun a l x hx => by
  rcases List.mem_cons.1 hx with h | h
  ·rw [h]; rfl
  ·exact enP_sep l x h
 obtain ⟨h1, h2⟩ := enc2_inj (hs _ _) (hs _ _) h
 obtain ⟨h3, h4⟩ := List.cons.inj h2
 exact Prod.ext h1 (Prod.ext (Prod.mk.inj h3).2 (enP_inj h4))
section
variable {α β : Type} [DecidableEq α] [DecidableEq β] {f : α → β}
theorem inL_map (hf : ∀ a b, f a = f b → a = b) (l : List α) (a : α) : inL (l.map f) (f a) = inL l a := by
 rw [Bool.eq_iff_iff, inL_iff, inL_iff, List.mem_map]
 exact ⟨fun ⟨x, h1, h2⟩ => hf _ _ h2 ▸ h1, fun h => ⟨a, h, rfl⟩⟩
theorem ixL_map (hf : ∀ a b, f a = f b → a = b) (l : List α) (a : α) : ixL (l.map f) (f a) = ixL l a := by
 unfold ixL
 rw [List.findIdx_map]
 congr 1
 funext x
 exact decide_eq_decide.2 ⟨hf _ _, fun h => by rw [h]⟩
end
def seenT (m : List Sta) (use : List Bool) (out : List Int) : Nat → List Sg
 | 0 => []
 | i + 1 => if bAt use i = true ∧ inL (seenT m use out i) (sgT m use out i) = false then seenT m use out i ++ [sgT m use out i] else seenT m use out i
def clsT (m : List Sta) (use : List Bool) (out : List Int) : List Int := (List.range m.length).map fun q => if bAt use q = true then (ixL (seenT m use out m.length) (sgT m use out q) : Int) else -1
def clGoT (m : List Sta) (use : List Bool) : Nat → List Int → Int → List Int
 | 0, out, _ => clsT m use out
 | f + 1, out, cnt => if ((seenT m use out m.length).length : Int) = cnt then clsT m use out else clGoT m use f (clsT m use out) (seenT m use out m.length).length
theorem seen_en (m : List Sta) (use : List Bool) (out : List Int) : ∀ i, seenL m use out i = (seenT m use out i).map enS
 | 0 => rfl
 | i + 1 => by
  unfold seenL seenT
  rw [seen_en m use out i, sgB_en, inL_map (fun _ _ => enS_inj)]
  split
  ·simp
  ·rfl
theorem cls_en (m : List Sta) (use : List Bool) (out : List Int) : clsL m use out = clsT m use out := by
 refine list_ext_i (by rw [cls_len]; simp [clsT]) fun q hq => ?_
 rw [cls_len] at hq
 rw [cls_at hq, seen_en, sgB_en, ixL_map (fun _ _ => enS_inj)]
 show _ = (clsT m use out).getD q 0
 unfold clsT
 rw [List.getD_eq_getElem?_getD, List.getElem?_map, List.getElem?_range hq]; rfl
theorem clGo_en (m : List Sta) (use : List Bool) : ∀ (f : Nat) (out : List Int) (cnt : Int), clGo m use f out cnt = clGoT m use f out cnt
 | 0, out, _ => cls_en m use out
 | f + 1, out, cnt => by
  unfold clGo clGoT
  rw [cls_en, seen_en, List.length_map]
  split
  ·rfl
  ·exact clGo_en m use f _ _
def clT (m : List Sta) (use : List Bool) : List Int := clGoT m use (m.length + 1) (List.replicate m.length (-1)) (-1)
theorem clF_en (m : List Sta) (use : List Bool) : clF m use = clT m use := clGo_en ..
def useX (r : List Bool) (X : List (List Bool)) (n : Nat) : List Bool := (List.range n).map fun i => bAt r i && xAt X i n
def t0 : List Sta := [(-1, [(0, 1), (1, 2)]), (-1, [(1, 3)]), (-1, [(1, 4)]), (1, []), (1, [])]
def m0 : List Sta := [(-1, [(0, 1), (1, 1)]), (-1, [(1, 2)]), (1, [])]
theorem ap_t0 : apF t0 t0 6 = apIt t0 t0 6 3 := apF_of (by decide +kernel) (by decide)
theorem ap_m0 : apF m0 m0 6 = apIt m0 m0 6 3 := apF_of (by decide +kernel) (by decide)
theorem use_t0 : useM t0 = [true, true, true, true, true] := by
 show useX (reachM t0) (apF t0 t0 6) 5 = _
 rw [ap_t0]
 decide +kernel
theorem use_m0 : useM m0 = [true, true, true] := by
 show useX (reachM m0) (apF m0 m0 6) 3 = _
 rw [ap_m0]
 decide +kernel
theorem make_t0 : makeM t0 = m0 := by
 unfold makeM
 rw [use_t0, clF_en]
 decide +kernel
theorem make_m0 : makeM m0 = m0 := by
 unfold makeM
 rw [use_m0, clF_en]
 decide +kernel
/-! ### how long the least machine is -/
theorem mkFold_len (use : List Bool) (cls : List Int) : ∀ (l : List Eg) (st : List Int × List Eg), (l.foldl (mkStep use cls) st).2.length ≤ st.2.length + l.length
 | [], st => Nat.le_refl _
 | e :: l, st => by
  rw [List.foldl_cons]
  have h1 := mkFold_len use cls l (mkStep use cls st e)
  have h2 := mkStep_eln use cls st e
  rw [List.length_cons]; omega
theorem mkFold_more (use : List Bool) (cls : List Int) : ∀ (l : List Eg) (st : List Int × List Eg), st.1.length ≤ (l.foldl (mkStep use cls) st).1.length
 | [], st => Nat.le_refl _
 | e :: l, st => by
  rw [List.foldl_cons]
  obtain ⟨t, ht⟩ := mkStep_more use cls st e
  have h1 := mkFold_more use cls l (mkStep use cls st e)
  rw [ht, List.length_append] at h1; omega
theorem mkFold_ok {n : Nat} {use : List Bool} {cls : List Int} : ∀ (l : List Eg) (st : List Int × List Eg), (∀ e ∈ l, 0 ≤ e.2 ∧ e.2 < n) → QOk n cls st.1 → QOk n cls (l.foldl (mkStep use cls) st).1
 | [], _, _, h => h
 | e :: l, st, hl, h => by
  rw [List.foldl_cons]
  exact mkFold_ok l _ (fun x hx => hl x (List.mem_cons_of_mem _ hx)) (h.step (hl e (List.mem_cons_self ..)))
theorem mkGo_sz {m : List Sta} {use : List Bool} {cls : List Int} (hv : Vm 6 m) {E : Nat} (hE : ∀ k, k < m.length → (mAt m k).2.length ≤ E) : ∀ (f i : Nat) (q : List Int) (out : List Sta), QOk m.length cls q → i ≤ q.length → out.length = i → (∀ s ∈ out, s.2.length ≤ E) → (mkGo m use cls f i q out).length ≤ m.length ∧ ∀ s ∈ mkGo m use cls f i q out, s.2.length ≤ E
 | 0, i, q, out, hq, hi, ho, hs => ⟨by have := hq.len; show out.length ≤ _; omega, hs⟩
 | f + 1, i, q, out, hq, hi, ho, hs => by
  rw [mkGo]
  split
  ·rename_i h
   have hm : iAt q i ∈ q := by
    show q.getD i 0 ∈ q
    rw [List.getD_eq_getElem?_getD, List.getElem?_eq_getElem h]; exact List.getElem_mem _
   have h1 := hq.lt _ hm
   have hk : (iAt q i).toNat < m.length := by omega
   refine mkGo_sz hv hE f (i + 1) _ _ ?_ ?_ (by rw [List.length_append]; simp; omega) ?_
   ·exact mkFold_ok _ _ (fun e he => by have := hv.edge _ hk e he; omega) hq
   ·have h2 : q.length ≤ (mkRow m use cls q (iAt q i).toNat).1.length := mkFold_more use cls (mAt m (iAt q i).toNat).2 (q, [])
    omega
   ·intro s hs2
    rcases List.mem_append.1 hs2 with h3 | h3
    ·exact hs s h3
    ·rw [List.mem_singleton.1 h3]
     have h4 : (mkRow m use cls q (iAt q i).toNat).2.length ≤ 0 + (mAt m (iAt q i).toNat).2.length := mkFold_len use cls (mAt m (iAt q i).toNat).2 (q, [])
     have := hE _ hk
     show (mkRow m use cls q (iAt q i).toNat).2.length ≤ E
     omega
  ·exact ⟨by have := hq.len; omega, hs⟩
theorem makeM_sz {m : List Sta} (hv : Vm 6 m) {E : Nat} (hE : ∀ k, k < m.length → (mAt m k).2.length ≤ E) : (makeM m).length ≤ m.length ∧ ∀ s ∈ makeM m, s.2.length ≤ E := by
 unfold makeM
 have h0 := hv.pos
 split
 ·exact mkGo_sz hv hE _ 0 [0] [] ⟨by simp [kyC], fun s hs => by rw [List.mem_singleton.1 hs]; omega⟩ (Nat.zero_le _) rfl (fun s hs => by cases hs)
 ·exact ⟨h0, fun s hs => by rw [List.mem_singleton.1 hs]; exact Nat.zero_le _⟩
end Go.Proofs.YtcpcghnpoekhpaaDoor.A
/- Machines: marks that spread, by hand. -/
set_option linter.unusedSimpArgs false
set_option linter.unusedVariables false
set_option maxRecDepth 100000
set_option maxHeartbeats 4000000
namespace Go.Proofs.YtcpcghnpoekhpaaDoor
open Go Go.RowKit Go.Proofs
open A (Eg Sta eAt mAt bAt)
def Mk (w : World) (B : Nat) (o : List Bool) : Prop := w.heap[B]? = some (.cells (o.map Value.bool).toArray 4 (0, 0))
theorem Mk.cell {w : World} {B : Nat} {o : List Bool} (h : Mk w B o) {k : Nat} (hk : k < o.length) : w.cell? ⟨B, k, none⟩ = some (.bool (bAt o k)) := by
 have h : w.heap[B]? = _ := h
 rw [cell_of_row _ B k _ _ _ h]
 show ((o.map Value.bool).toArray)[k]? = _
 rw [List.getElem?_toArray, List.getElem?_map, List.getElem?_eq_getElem hk]
 show some (Value.bool o[k]) = some (.bool (o.getD k false))
 rw [List.getD_eq_getElem?_getD, List.getElem?_eq_getElem hk]; rfl
theorem Mk.fz {w : World} {B : Nat} {o : List Bool} (h : Mk w B o) (k : Nat) : w.frozen? ⟨B, k, none⟩ = false := by
 have h : w.heap[B]? = _ := h
 exact frozen_of_row _ B k _ _ h
theorem Mk.set {w : World} {B : Nat} {o : List Bool} (h : Mk w B o) (k : Nat) (b : Bool) : Mk (w.setCell ⟨B, k, none⟩ (.bool b)) B (o.set k b) := by
 have h : w.heap[B]? = _ := h
 show _ = _
 rw [heap_setCell_same _ B k _ _ _ h]
 simp [List.map_set]
theorem Mk.frame {w w' : World} {B : Nat} {o : List Bool} (h : Mk w B o) (hb : w'.heap[B]? = w.heap[B]?) : Mk w' B o := by
 exact hb.trans h
def mkA (o : List Bool) (k : Nat) (b : Bool) : List Bool × Bool := (o.set k (bAt o k || b), b && !bAt o k)
theorem mkA_len (o : List Bool) (k : Nat) (b : Bool) : (mkA o k b).1.length = o.length := by simp [mkA]
set_option maxHeartbeats 4000000 in
set_option maxRecDepth 100000 in
theorem set_any (B cap : Nat) (o : List Bool) (k : Nat) (b : Bool) (w : World) (h : Mk w B o) (hk : k < o.length) (hn : o.length ≤ 1000000000) :
    Calls Tryd.prog 23 #[.slice (some ⟨B, 0, none⟩) o.length cap, .int .i64 k, .bool b] w fun e w' => e = .returned (.bool (mkA o k b).2) ∧ Chg (fun x => x = B) w w' ∧ Mk w' B (mkA o k b).1 := by
  have c0 := h.cell hk
  have f0 := h.fz k
  have h1 := h.set k (bAt o k || b)
  have k1 := Chg.of_setCell w ⟨B, k, none⟩ (.bool (bAt o k || b))
  have H1 := Lib.hid h1
  have K1 := Lib.hid k1
  clear h1 k1
  have hr : (mkA o k b) = (o.set k (bAt o k || b), b && !bAt o k) := rfl
  rw [hr]
  clear hr
  cases hb : bAt o k <;> cases b <;> (
    rw [hb] at c0 H1 K1
    go_enter Tryd.func23, Tryd.ntmps23
    go_wp2_with fail
    go_ret
    exact ⟨rfl, K1.out, H1.out⟩)
end Go.Proofs.YtcpcghnpoekhpaaDoor
/- Machines: marks that spread until nothing turns, by hand. -/
set_option linter.unusedSimpArgs false
set_option linter.unusedVariables false
set_option maxRecDepth 100000
set_option maxHeartbeats 4000000
namespace Go.Proofs.YtcpcghnpoekhpaaDoor
open Go Go.RowKit Go.Proofs
open A (Eg Sta eAt mAt bAt cntR nM mC nE eC vI CRep)
def EgsIn (B : Nat) (w : World) (v : Value) (l : List Eg) : Prop := ∃ a cap, v = .slice a l.length cap ∧ (0 < l.length → ∃ b off, a = some ⟨b, off, none⟩ ∧ b < B ∧ ∀ k, k < l.length → w.cell? ⟨b, off + k * 2, none⟩ = some (.int .i64 (eAt l k).1) ∧ w.cell? ⟨b, off + k * 2 + 1, none⟩ = some (.int .i64 (eAt l k).2))
def StsIn (B : Nat) (w : World) (a : Option Addr) (m : List Sta) : Prop := 0 < m.length → ∃ b off, a = some ⟨b, off, none⟩ ∧ b < B ∧ ∀ k, k < m.length → w.cell? ⟨b, off + k * 2, none⟩ = some (.int .i64 (mAt m k).1) ∧ ∃ ev, w.cell? ⟨b, off + k * 2 + 1, none⟩ = some ev ∧ EgsIn B w ev (mAt m k).2
theorem EgsIn.frame {B : Nat} {w w' : World} {v : Value} {l : List Eg} (h : EgsIn B w v l) (hb : ∀ b, b < B → w'.heap[b]? = w.heap[b]?) : EgsIn B w' v l := by
 obtain ⟨a, cap, rfl, h⟩ := h
 refine ⟨a, cap, rfl, fun h0 => ?_⟩
 obtain ⟨b, off, rfl, h1, h2⟩ := h h0
 exact ⟨b, off, rfl, h1, fun k hk => ⟨(World.cell?_of_block (hb b h1)).trans (h2 k hk).1, (World.cell?_of_block (hb b h1)).trans (h2 k hk).2⟩⟩
theorem StsIn.frame {B : Nat} {w w' : World} {a : Option Addr} {m : List Sta} (h : StsIn B w a m) (hb : ∀ b, b < B → w'.heap[b]? = w.heap[b]?) : StsIn B w' a m := fun h0 => by
 obtain ⟨b, off, rfl, h1, h2⟩ := h h0
 refine ⟨b, off, rfl, h1, fun k hk => ?_⟩
 obtain ⟨g1, ev, g2, g3⟩ := h2 k hk
 exact ⟨(World.cell?_of_block (hb b h1)).trans g1, ev, (World.cell?_of_block (hb b h1)).trans g2, g3.frame hb⟩
theorem egs_in {w : World} {S : Nat → Prop} {B : Nat} {v : Value} {l : List Eg} (h : CRep w S v (.sl (nE l) (eC l))) (hS : ∀ b, S b → b < B) : EgsIn B w v l := by
 have hn := A.nE_eq l
 have hl := A.eC_len l
 have hat := A.eC_at l
 generalize nE l = n at *
 generalize eC l = cs at *
 cases h with
 | sl0 => exact ⟨_, _, by rw [← hn], fun h => absurd h (by omega)⟩
 | @sl b off n cap cells vs hs hc h1 h2 =>
  refine ⟨_, _, by rw [← hn], fun h => ⟨b, off, rfl, hS b hs, fun k hk => ?_⟩⟩
  obtain ⟨c0, c1⟩ := hat k hk
  have g0 := h2 (k * 2) (by omega)
  have g1 := h2 (k * 2 + 1) (by omega)
  rw [A.cellAt, List.getD_eq_getElem?_getD, List.getElem?_eq_getElem (by omega)] at c0 c1
  have c0 : cs[k * 2]'(by omega) = vI (eAt l k).1 := c0
  have c1 : cs[k * 2 + 1]'(by omega) = vI (eAt l k).2 := c1
  rw [c0] at g0
  rw [c1] at g1
  exact ⟨by rw [h1 (k * 2) (by omega), (A.crep_val g0).1], by rw [Nat.add_assoc, h1 (k * 2 + 1) (by omega), (A.crep_val g1).1]⟩
theorem sts_in {w : World} {S : Nat → Prop} {B : Nat} {v : Value} {m : List Sta} (h : CRep w S v (.sl (nM m) (mC m))) (hS : ∀ b, S b → b < B) : ∃ a cap, v = .slice a m.length cap ∧ StsIn B w a m := by
 have hn := A.nM_eq m
 have hl := A.mC_len m
 have hat := A.mC_at m
 generalize nM m = n at *
 generalize mC m = cs at *
 cases h with
 | sl0 => exact ⟨_, _, by rw [← hn], fun h => absurd h (by omega)⟩
 | @sl b off n cap cells vs hs hc h1 h2 =>
  refine ⟨_, _, by rw [← hn], fun h => ⟨b, off, rfl, hS b hs, fun k hk => ?_⟩⟩
  obtain ⟨c0, c1⟩ := hat k hk
  have g0 := h2 (k * 2) (by omega)
  have g1 := h2 (k * 2 + 1) (by omega)
  rw [A.cellAt, List.getD_eq_getElem?_getD, List.getElem?_eq_getElem (by omega)] at c0 c1
  have c0 : cs[k * 2]'(by omega) = vI (mAt m k).1 := c0
  have c1 : cs[k * 2 + 1]'(by omega) = .sl (nE (mAt m k).2) (eC (mAt m k).2) := c1
  rw [c0] at g0
  rw [c1] at g1
  exact ⟨by rw [h1 (k * 2) (by omega), (A.crep_val g0).1], vs (k * 2 + 1), by rw [Nat.add_assoc, h1 (k * 2 + 1) (by omega)], egs_in g1 hS⟩
structure Mark (m : List Sta) (mk : List Bool → Nat → Nat → List Bool × Bool) (J : List Bool → Prop) : Prop where
 len : ∀ o i t, (mk o i t).1.length = o.length
 rise : ∀ o i t, o.length = m.length → i < m.length → t < m.length → (mk o i t).2 = true → cntR o < cntR (mk o i t).1
 same : ∀ o i t, (mk o i t).2 = false → (mk o i t).1 = o
 inv : ∀ o i e, i < m.length → e ∈ (mAt m i).2 → J o → J (mk o i e.2.toNat).1
def cntW (w : World) (B : Nat) : Nat := match w.heap[B]? with
 | some (.cells arr _ _) => arr.toList.countP fun v => match v with | .bool b => b | _ => false
 | _ => 0
theorem Mk.cnt {w : World} {B : Nat} {o : List Bool} (h : Mk w B o) : cntW w B = cntR o := by
 have h : w.heap[B]? = _ := h
 unfold cntW
 rw [h]
 show List.countP _ (o.map Value.bool) = o.countP (· = true)
 rw [List.countP_map]
 congr 1
 funext b
 cases b <;> rfl
theorem chg_below {B0 B : Nat} {w w' : World} (h : Chg (fun x => x = B) w w') (h0 : B0 ≤ B) (h1 : B0 ≤ w.heap.size) : ∀ b, b < B0 → w'.heap[b]? = w.heap[b]? := fun b hb => h.block b (by omega) (by omega)
def NT (mk : List Bool → Nat → Nat → List Bool × Bool) (m : List Sta) (o : List Bool) (k : Nat) : Prop := ∀ i, i < k → ∀ e ∈ (mAt m i).2, (mk o i e.2.toNat).2 = false
def NTe (mk : List Bool → Nat → Nat → List Bool × Bool) (o : List Bool) (k : Nat) (el : List Eg) (q : Nat) : Prop := ∀ r, r < q → (mk o k (eAt el r).2.toNat).2 = false
abbrev boolOf : Value → Bool
 | .bool b => b
 | _ => false
set_option maxHeartbeats 4000000 in
set_option maxRecDepth 100000 in
theorem spread_any (f : FuncId) (hen : A.Enters Tryd.prog f) (p1 p2 : Value) (B0 B : Nat) (a : Option Addr) (cap mcap : Nat) (m : List Sta) (mk : List Bool → Nat → Nat → List Bool × Bool) (J : List Bool → Prop) (o : List Bool) (w : World)
  (hv : A.Vm 6 m) (hn : m.length ≤ 1000000) (hne : ∀ i, i < m.length → (mAt m i).2.length ≤ 1000000)
  (hM : Mark m mk J) (hs : StsIn B0 w a m) (hB : B0 ≤ B) (hBl : B < w.heap.size) (ho : Mk w B o) (hol : o.length = m.length) (hJ : J o)
  (hcall : ∀ wr o (i t : Nat), Chg (fun x => x = B) w wr → Mk wr B o → o.length = m.length → i < m.length → t < m.length → Calls Tryd.prog f #[.int .i64 i, .int .i64 t, p1, p2] wr fun e w' => e = .returned (.bool (mk o i t).2) ∧ Chg (fun x => x = B) wr w' ∧ Mk w' B (mk o i t).1) :
  Calls Tryd.prog 24 #[.slice a m.length cap, .slice (some ⟨B, 0, none⟩) m.length mcap, .func (.func f) #[] #[p1, p2]] w fun e w' => e = .returned (.slice (some ⟨B, 0, none⟩) m.length mcap) ∧ Chg (fun x => x = B) w w' ∧ ∃ o', Mk w' B o' ∧ o'.length = m.length ∧ J o' ∧ NT mk m o' m.length := by
 have h00 := hv.pos
 obtain ⟨mb, moff, rfl, hmb, hmc⟩ := hs hv.pos
 have HMC := Lib.hid hmc
 have HC := Lib.hid hcall
 have HM := Lib.hid hM
 have HV := Lib.hid hv
 have HO := Lib.hid ho
 have HJ := Lib.hid hJ
 have HNE := Lib.hid hne
 clear hmc hcall hM hs hv ho hJ hne
 go_enter Tryd.func24, Tryd.ntmps24
 go_wp2_with fail
 go_loopw [7] (fun v wr => ∃ (ag : Bool) (o' : List Bool), v = .bool ag ∧ Chg (fun x => x = B) w wr ∧ Mk wr B o' ∧ o'.length = m.length ∧ J o' ∧ (ag = false → NT mk m o' m.length)) (fun v wr => if boolOf v = true then m.length + 1 - cntW wr B else 0)
 case atStart => exact ⟨true, o, rfl, Chg.refl _ w, HO.out, hol, HJ.out, fun h => by cases h⟩
 case round =>
  obtain ⟨ag, o0, rfl, hch, hmk, hl0, hj0, hdone⟩ := hrel
  have HCH := Lib.hid hch
  have HMK := Lib.hid hmk
  have HJ0 := Lib.hid hj0
  have HD := Lib.hid hdone
  clear hch hmk hj0 hdone
  cases ag with
  | false =>
   go_wp2_with fail
   go_ret
   exact ⟨rfl, HCH.out, o0, HMK.out, hl0, HJ0.out, HD.out (by first | exact rfl | trivial)⟩
  | true =>
   clear HD
   go_wp2_with fail
   go_loopw [7, 15] (fun v kk wr => ∃ (ag : Bool) (o' : List Bool) (k : Nat), v = .bool ag ∧ kk = .int .i64 k ∧ k ≤ m.length ∧ Chg (fun x => x = B) w wr ∧ Mk wr B o' ∧ o'.length = m.length ∧ J o' ∧ (ag = false → o' = o0 ∧ NT mk m o0 k) ∧ (ag = true → cntR o0 < cntR o')) (fun v kk _ => m.length - (intOf kk).toNat)
   case atStart => exact ⟨false, o0, 0, rfl, rfl, Nat.zero_le _, HCH.out, HMK.out, hl0, HJ0.out, fun _ => ⟨rfl, fun i hi => absurd hi (by omega)⟩, fun h => by cases h⟩
   case round =>
    obtain ⟨ag, o1, k, rfl, rfl, hk, hch1, hmk1, hl1, hj1, hd1, hr1⟩ := hrel
    have HCH1 := Lib.hid hch1
    have HMK1 := Lib.hid hmk1
    have HJ1 := Lib.hid hj1
    have HD1 := Lib.hid hd1
    have HR1 := Lib.hid hr1
    clear hch1 hmk1 hj1 hd1 hr1
    by_cases hkl : k < m.length
    ·obtain ⟨c0, ev, c1, ea, ecap, rfl, hel⟩ := HMC.out k hkl
     have hbl := chg_below HCH1.out hB (by omega)
     have d0 := (World.cell?_of_block (a := ⟨mb, moff + k * 2, none⟩) (hbl mb hmb)).trans c0
     have d1 := (World.cell?_of_block (a := ⟨mb, moff + k * 2 + 1, none⟩) (hbl mb hmb)).trans c1
     have hed := HV.out.edge k hkl
     have hnk := HNE.out k hkl
     generalize hE : mAt m k = E at *
     obtain ⟨eo, el⟩ := E
     dsimp only at d0 d1 hel hed hnk
     have HEL := Lib.hid hel
     have HED := Lib.hid hed
     have HE := Lib.hid hE
     clear hel hed hE c0 c1 hbl
     go_wp2_with fail
     go_loopw [7, 23] (fun v kk wr => ∃ (ag : Bool) (o' : List Bool) (q : Nat), v = .bool ag ∧ kk = .int .i64 q ∧ q ≤ el.length ∧ Chg (fun x => x = B) w wr ∧ Mk wr B o' ∧ o'.length = m.length ∧ J o' ∧ (ag = false → o' = o0 ∧ NT mk m o0 k ∧ NTe mk o0 k el q) ∧ (ag = true → cntR o0 < cntR o')) (fun v kk _ => el.length - (intOf kk).toNat)
     case atStart =>
      refine ⟨ag, o1, 0, rfl, rfl, Nat.zero_le _, HCH1.out.trans (Chg.alloc _ _ _), HMK1.out.frame ?_, hl1, HJ1.out, fun h => ⟨(HD1.out h).1, (HD1.out h).2, fun r hr => absurd hr (by omega)⟩, HR1.out⟩
      exact Below.heap_alloc _ _ B (Nat.lt_of_lt_of_le hBl HCH1.out.size)
     case round =>
      obtain ⟨ag, o2, q, rfl, rfl, hq, hch2, hmk2, hl2, hj2, hd2, hr2⟩ := hrel
      have HCH2 := Lib.hid hch2
      have HMK2 := Lib.hid hmk2
      have HJ2 := Lib.hid hj2
      have HD2 := Lib.hid hd2
      have HR2 := Lib.hid hr2
      clear hch2 hmk2 hj2 hd2 hr2
      by_cases hql : q < el.length
      ·obtain ⟨eb, eoff, rfl, heb, hec⟩ := HEL.out (by omega)
       obtain ⟨c0, c1⟩ := hec q hql
       have hbl := chg_below HCH2.out hB (by omega)
       have d0 := (World.cell?_of_block (a := ⟨eb, eoff + q * 2, none⟩) (hbl eb heb)).trans c0
       have d1 := (World.cell?_of_block (a := ⟨eb, eoff + q * 2 + 1, none⟩) (hbl eb heb)).trans c1
       have hem : eAt el q ∈ el := by rw [A.eAt_get hql]; exact List.getElem_mem hql
       have hrg := HED.out _ hem
       have HEM := Lib.hid hem
       generalize hX : eAt el q = X at *
       obtain ⟨et, eg⟩ := X
       dsimp only at d0 d1 hrg
       obtain ⟨g, rfl⟩ : ∃ g : Nat, eg = (g : Int) := ⟨eg.toNat, by omega⟩
       have HX := Lib.hid hX
       have hg : g < m.length := by omega
       clear hec c0 c1 hbl hem hX hrg
       go_wp2_with fail
       rw [hen]
       go_wp2_with fail
       refine (HC.out _ o2 k g (HCH2.out.trans (Chg.alloc _ _ _)) (HMK2.out.frame (Below.heap_alloc _ _ B (Nat.lt_of_lt_of_le hBl HCH2.out.size))) hl2 hkl hg).mono ?_
       rintro e w9 ⟨rfl, hc9, hm9⟩
       have HC9 := Lib.hid ((HCH2.out.trans (Chg.alloc _ _ _)).trans hc9)
       have HM9 := Lib.hid hm9
       clear hc9 hm9
       have hrise := HM.out.rise o2 k g hl2 hkl hg
       have hsame := HM.out.same o2 k g
       have hlen := HM.out.len o2 k g
       have hinv : J o2 → J (mk o2 k g).1 := HM.out.inv o2 k (et, (g : Int)) hkl (by rw [HE.out]; exact HEM.out)
       have hxq : (mk o0 k (eAt el q).2.toNat) = mk o0 k g := by rw [HX.out]; rfl
       have hkeep : ag = false → (mk o2 k g).2 = false → NTe mk o0 k el (q + 1) := fun h1 h2 => by
        intro r hr
        rcases Nat.lt_or_ge r q with h | h
        ·exact (HD2.out h1).2.2 r h
        ·obtain rfl : r = q := by omega
         rw [hxq, ← (HD2.out h1).1]; exact h2
       generalize mk o2 k g = mo at *
       obtain ⟨mo, mb2⟩ := mo
       dsimp only at hrise hsame hlen hinv hkeep HM9
       have HRISE := Lib.hid hrise
       have HSAME := Lib.hid hsame
       have HLEN := Lib.hid hlen
       have HINV := Lib.hid hinv
       have HKEEP := Lib.hid hkeep
       clear hrise hsame hlen hinv hkeep hxq
       cases mb2 with
       | true =>
        go_wp2_with fail
        go_roundw
        case rel =>
         refine ⟨true, mo, q + 1, rfl, by go_num, by omega, HC9.out, HM9.out, HLEN.out.trans hl2, HINV.out HJ2.out, fun h => (by cases h), fun _ => ?_⟩
         have h1 := HRISE.out (by first | exact rfl | trivial)
         cases ag with
         | true => exact Nat.lt_trans (HR2.out rfl) h1
         | false => rw [(HD2.out rfl).1] at h1; exact h1
        case measure => simp [intOf]; omega
       | false =>
        go_wp2_with fail
        go_roundw
        case rel =>
         refine ⟨ag, mo, q + 1, rfl, by go_num, by omega, HC9.out, HM9.out, HLEN.out.trans hl2, HINV.out HJ2.out, fun h => ⟨(HSAME.out (by first | exact rfl | trivial)).trans (HD2.out h).1, (HD2.out h).2.1, HKEEP.out h (by first | exact rfl | trivial)⟩, fun h => ?_⟩
         rw [HSAME.out (by first | exact rfl | trivial)]; exact HR2.out h
        case measure => simp [intOf]; omega
      ·have hqe : q = el.length := by omega
       go_wp2_with fail
       go_roundw
       case rel =>
        refine ⟨ag, o2, k + 1, rfl, by go_num, by omega, HCH2.out, HMK2.out, hl2, HJ2.out, fun h => ⟨(HD2.out h).1, ?_⟩, HR2.out⟩
        intro i hi e he
        rcases Nat.lt_or_ge i k with h1 | h1
        ·exact (HD2.out h).2.1 i h1 e he
        ·obtain rfl : i = k := by omega
         rw [HE.out] at he
         have he : e ∈ el := he
         obtain ⟨r, hr, rfl⟩ := List.mem_iff_getElem.1 he
         have := (HD2.out h).2.2 r (by omega)
         rwa [A.eAt_get hr] at this
       case measure => simp [intOf]; omega
    ·have hke : k = m.length := by omega
     subst hke
     go_wp2_with fail
     go_roundw
     case rel =>
      refine ⟨ag, o1, rfl, HCH1.out, HMK1.out, hl1, HJ1.out, fun h => ?_⟩
      rw [(HD1.out h).1]; exact (HD1.out h).2
     case measure =>
      have e1 := HMK.out.cnt
      have e2 := HMK1.out.cnt
      have e3 := A.cntR_le o0
      have e4 := A.cntR_le o1
      rw [e1, e2]
      cases ag with
      | true => have := HR1.out rfl; simp [boolOf]; omega
      | false => simp [boolOf]; omega
end Go.Proofs.YtcpcghnpoekhpaaDoor
/- Machines: what the two marks mean. The plain law. -/
set_option linter.unusedSimpArgs false
set_option linter.unusedVariables false
set_option maxRecDepth 100000
set_option maxHeartbeats 4000000
namespace Go.Proofs.YtcpcghnpoekhpaaDoor
open Go Go.RowKit Go.Proofs
open A (Eg Sta eAt mAt bAt cntR Rc Tl tellS goM outM)
def metM (o : List Bool) (i t : Nat) : List Bool × Bool := mkA o t (bAt o i)
def telM (o : List Bool) (i t : Nat) : List Bool × Bool := mkA o i (bAt o t)
theorem mkA_at {o : List Bool} {k : Nat} {b : Bool} (hk : k < o.length) (i : Nat) : bAt (mkA o k b).1 i = if k = i then (bAt o k || b) else bAt o i := by
 show bAt (o.set k _) i = _
 rw [A.bAt_set24 hk]
theorem mkA_rise {o : List Bool} {k : Nat} {b : Bool} (hk : k < o.length) (h : (mkA o k b).2 = true) : cntR o < cntR (mkA o k b).1 := by
 have h : (b && !bAt o k) = true := h
 rw [Bool.and_eq_true] at h
 obtain ⟨rfl, h2⟩ := h
 have h2 : bAt o k = false := by simpa using h2
 show _ < cntR (o.set k (bAt o k || true))
 rw [Bool.or_true, A.cntR_set o k hk h2]; omega
theorem set_self {o : List Bool} {k : Nat} : o.set k (bAt o k) = o := by
 apply List.ext_getElem (by simp)
 intro i h1 h2
 rw [List.getElem_set]
 split
 ·rename_i e; subst e
  show o.getD k false = _
  rw [List.getD_eq_getElem?_getD, List.getElem?_eq_getElem h2]; rfl
 ·rfl
theorem mkA_same {o : List Bool} {k : Nat} {b : Bool} (h : (mkA o k b).2 = false) : (mkA o k b).1 = o := by
 have h : (b && !bAt o k) = false := h
 show o.set k (bAt o k || b) = o
 have e : (bAt o k || b) = bAt o k := by
  generalize bAt o k = x at *
  cases b <;> cases x <;> first | rfl | (exact absurd h (by decide))
 rw [e, set_self]
def JMet (m : List Sta) (o : List Bool) : Prop := o.length = m.length ∧ bAt o 0 = true ∧ ∀ i, bAt o i = true → Rc m i
def JTel (m : List Sta) (o : List Bool) : Prop := o.length = m.length ∧ (∀ i, i < m.length → 0 ≤ (mAt m i).1 → bAt o i = true) ∧ ∀ i, i < m.length → bAt o i = true → Tl m i
theorem mark_met {m : List Sta} (hv : A.Vm 6 m) : Mark m metM (JMet m) := by
 refine ⟨fun o i t => mkA_len .., fun o i t hl hi ht h => mkA_rise (by omega) h, fun o i t h => mkA_same h, fun o i e hi he hj => ?_⟩
 have hr := hv.edge i hi e he
 have hl : e.2.toNat < o.length := by rw [hj.1]; omega
 refine ⟨(mkA_len ..).trans hj.1, ?_, fun k hk => ?_⟩
 ·show bAt (mkA o e.2.toNat (bAt o i)).1 0 = true
  rw [mkA_at hl]
  split
  ·rename_i e0; rw [e0, hj.2.1]; rfl
  ·exact hj.2.1
 ·have hk : bAt (mkA o e.2.toNat (bAt o i)).1 k = true := hk
  rw [mkA_at hl] at hk
  split at hk
  ·rename_i e0
   rw [Bool.or_eq_true] at hk
   rcases hk with hk | hk
   ·rw [← e0]; exact hj.2.2 _ hk
   ·rw [← e0]; exact .step (hj.2.2 _ hk) hi he
  ·exact hj.2.2 _ hk
theorem tl_step {m : List Sta} (hv : A.Vm 6 m) {i : Nat} (hi : i < m.length) {e : Eg} (he : e ∈ (mAt m i).2) (h : Tl m e.2.toNat) : Tl m i := by
 obtain ⟨w, hw⟩ := h
 refine ⟨e.1 :: w, ?_⟩
 rw [A.tell_cons, hv.go hi he]
 have := hv.edge i hi e he
 rwa [show ((e.2.toNat : Nat) : Int) = e.2 by omega] at hw
theorem mark_tel {m : List Sta} (hv : A.Vm 6 m) : Mark m telM (JTel m) := by
 refine ⟨fun o i t => mkA_len .., fun o i t hl hi ht h => mkA_rise (by omega) h, fun o i t h => mkA_same h, fun o i e hi he hj => ?_⟩
 have hr := hv.edge i hi e he
 have hl : i < o.length := by rw [hj.1]; omega
 refine ⟨(mkA_len ..).trans hj.1, fun k hk h0 => ?_, fun k hk1 hk => ?_⟩
 ·show bAt (mkA o i (bAt o e.2.toNat)).1 k = true
  rw [mkA_at hl]
  have h1 := hj.2.1 k hk h0
  split
  ·rename_i e0; rw [e0, h1]; rfl
  ·exact h1
 ·have hk : bAt (mkA o i (bAt o e.2.toNat)).1 k = true := hk
  rw [mkA_at hl] at hk
  by_cases e0 : i = k
  ·rw [if_pos e0, Bool.or_eq_true] at hk
   rw [← e0]
   rcases hk with hk | hk
   ·exact hj.2.2 _ hi hk
   ·exact tl_step hv hi he (hj.2.2 _ (by omega) hk)
  ·rw [if_neg e0] at hk
   exact hj.2.2 _ hk1 hk
theorem met_iff {m : List Sta} {o : List Bool} (hj : JMet m o) (hn : NT metM m o m.length) (i : Nat) : bAt o i = true ↔ Rc m i := by
 refine ⟨hj.2.2 i, A.rc_of_closed hj.2.1 fun i hi hb e he => ?_⟩
 have h : (bAt o i && !bAt o e.2.toNat) = false := hn i hi e he
 rw [hb, Bool.true_and] at h
 simpa using h
theorem tel_iff {m : List Sta} (hv : A.Vm 6 m) {o : List Bool} (hj : JTel m o) (hn : NT telM m o m.length) {i : Nat} (hi : i < m.length) : bAt o i = true ↔ Tl m i := by
 have key : ∀ (w : List Int) (i : Nat), i < m.length → tellS m i w ≠ -1 → bAt o i = true := by
  intro w
  induction w with
  | nil =>
   intro i hi hw
   have hw : outM m i ≠ -1 := hw
   rw [A.Vm.out_at hi] at hw
   exact hj.2.1 i hi (by have := hv.out i hi; omega)
  | cons c w ih =>
   intro i hi hw
   rw [A.tell_cons] at hw
   by_cases hg : 0 ≤ goM m i c
   ·have hm := A.go_mem hi hg
    have hr := hv.edge i hi _ hm
    dsimp only at hr
    have h1 := ih (goM m i c).toNat (by omega) (by rwa [show (((goM m i c).toNat : Nat) : Int) = goM m i c by omega])
    have h : (bAt o (goM m i c).toNat && !bAt o i) = false := hn i hi _ hm
    rw [h1, Bool.true_and] at h
    simpa using h
   ·exact absurd (A.tell_no w (by omega)) hw
 exact ⟨hj.2.2 i hi, fun ⟨w, hw⟩ => key w i hi hw⟩
def tl0 (m : List Sta) (k : Nat) : List Bool := (List.range m.length).map fun q => decide (q < k ∧ 0 ≤ (mAt m q).1)
theorem tl0_len (m : List Sta) (k : Nat) : (tl0 m k).length = m.length := by simp [tl0]
theorem tl0_at {m : List Sta} {k i : Nat} (hi : i < m.length) : bAt (tl0 m k) i = decide (i < k ∧ 0 ≤ (mAt m i).1) := by
 show (tl0 m k).getD i false = _
 unfold tl0
 rw [List.getD_eq_getElem?_getD, List.getElem?_map, List.getElem?_range hi]; rfl
theorem list_ext_b {o u : List Bool} (hl : o.length = u.length) (h : ∀ i, i < o.length → bAt o i = bAt u i) : o = u := by
 apply List.ext_getElem hl
 intro i h1 h2
 have := h i h1
 have e1 : bAt o i = o[i] := by show o.getD i false = _; rw [List.getD_eq_getElem?_getD, List.getElem?_eq_getElem h1]; rfl
 have e2 : bAt u i = u[i] := by show u.getD i false = _; rw [List.getD_eq_getElem?_getD, List.getElem?_eq_getElem h2]; rfl
 rw [← e1, this, e2]
theorem tl0_zero (m : List Sta) : tl0 m 0 = List.replicate m.length false := by
 refine list_ext_b (by simp [tl0]) fun i hi => ?_
 rw [tl0_len] at hi
 rw [tl0_at hi, decide_eq_false (by omega)]
 show _ = (List.replicate m.length false).getD i false
 rw [List.getD_eq_getElem?_getD, List.getElem?_replicate]
 split <;> rfl
theorem tl0_step {m : List Sta} {k : Nat} (hk : k < m.length) : (tl0 m k).set k (decide ((mAt m k).1 ≥ 0)) = tl0 m (k + 1) := by
 refine list_ext_b (by simp [tl0]) fun i hi => ?_
 have hi : i < m.length := by simpa [tl0] using hi
 rw [A.bAt_set24 (by rw [tl0_len]; exact hk), tl0_at hi, tl0_at hi]
 split
 ·rename_i e; subst e
  exact decide_eq_decide.2 ⟨fun h => ⟨by omega, h⟩, fun h => h.2⟩
 ·exact decide_eq_decide.2 ⟨fun h => ⟨by omega, h.2⟩, fun h => ⟨by omega, h.2⟩⟩
theorem jmet0 {m : List Sta} (hv : A.Vm 6 m) : JMet m ((List.replicate m.length false).set 0 true) := A.rIt_rc hv.pos 0
theorem jtel0 (m : List Sta) : JTel m (tl0 m m.length) := by
 refine ⟨tl0_len m _, fun i hi h => ?_, fun i hi h => ⟨[], ?_⟩⟩
 ·rw [tl0_at hi]; exact decide_eq_true ⟨hi, h⟩
 ·rw [tl0_at hi] at h
  have h := of_decide_eq_true h
  show outM m i ≠ -1
  rw [A.Vm.out_at hi]; omega
def bothM (u v : List Bool) (k : Nat) : List Bool := (List.range u.length).map fun q => if q < k then bAt u q && bAt v q else bAt u q
theorem both_len (u v : List Bool) (k : Nat) : (bothM u v k).length = u.length := by simp [bothM]
theorem both_at {u v : List Bool} {k i : Nat} (hi : i < u.length) : bAt (bothM u v k) i = if i < k then bAt u i && bAt v i else bAt u i := by
 show (bothM u v k).getD i false = _
 unfold bothM
 rw [List.getD_eq_getElem?_getD, List.getElem?_map, List.getElem?_range hi]; rfl
theorem both_zero (u v : List Bool) : bothM u v 0 = u := list_ext_b (both_len ..) fun i hi => by
 rw [both_len] at hi
 rw [both_at hi, if_neg (by omega)]
theorem both_step {u v : List Bool} {k : Nat} (hk : k < u.length) : (bothM u v k).set k (bAt u k && bAt v k) = bothM u v (k + 1) := by
 refine list_ext_b (by simp [bothM]) fun i hi => ?_
 have hi : i < u.length := by simpa [bothM] using hi
 rw [A.bAt_set24 (by rw [both_len]; exact hk), both_at hi, both_at hi]
 split
 ·rename_i e; subst e; rw [if_pos (by omega)]
 ·by_cases h : i < k
  ·rw [if_pos h, if_pos (by omega)]
  ·rw [if_neg h, if_neg (by omega)]
theorem both_use {m : List Sta} (hv : A.Vm 6 m) {u v : List Bool} (hu : JMet m u) (hun : NT metM m u m.length) (hw : JTel m v) (hvn : NT telM m v m.length) : bothM u v m.length = A.useM m := by
 refine list_ext_b (by rw [both_len, A.useM_len, hu.1]) fun i hi => ?_
 rw [both_len, hu.1] at hi
 rw [both_at (by rw [hu.1]; exact hi), if_pos hi, Bool.eq_iff_iff, A.use_iff hv hi, Bool.and_eq_true, met_iff hu hun, tel_iff hv hw hvn hi]
end Go.Proofs.YtcpcghnpoekhpaaDoor
/- Machines: the two marks, by hand. -/
set_option linter.unusedSimpArgs false
set_option linter.unusedVariables false
set_option maxRecDepth 100000
set_option maxHeartbeats 4000000
namespace Go.Proofs.YtcpcghnpoekhpaaDoor
open Go Go.RowKit Go.Proofs
open A (Eg Sta eAt mAt bAt)
theorem mkA_keep (o : List Bool) (i t : Nat) : bAt (mkA o t (bAt o i)).1 i = bAt o i := by
 show bAt (o.set t (bAt o t || bAt o i)) i = _
 rcases Nat.lt_or_ge t o.length with h | h
 ·rw [A.bAt_set24 h]
  split
  ·rename_i e; subst e; exact Bool.or_self _
  ·rfl
 ·rw [List.set_eq_of_length_le h]
theorem Mk.drew {w : World} {B : Nat} {o : List Bool} (h : Mk w B o) : Mk w.drew B o := h
set_option maxHeartbeats 4000000 in
set_option maxRecDepth 100000 in
theorem met_any (c7 c3 B cap : Nat) (o : List Bool) (i t : Nat) (w : World) (h7 : w.cell? ⟨c7, 0, none⟩ = some (.func (.func 23) #[] #[])) (h3 : w.cell? ⟨c3, 0, none⟩ = some (.slice (some ⟨B, 0, none⟩) o.length cap)) (l7 : c7 < w.heap.size) (l3 : c3 < w.heap.size) (n7 : ¬ c7 = B) (n3 : ¬ c3 = B) (h : Mk w B o) (hi : i < o.length) (ht : t < o.length) (hn : o.length ≤ 1000000000) :
    Calls Tryd.prog 25 #[.int .i64 i, .int .i64 t, .pointer (some ⟨c7, 0, none⟩), .pointer (some ⟨c3, 0, none⟩)] w fun e w' => e = .returned (.bool (mkA o t (bAt o i)).2) ∧ Chg (fun x => x = B) w w' ∧ Mk w' B (mkA o t (bAt o i)).1 := by
  have c0 := h.cell hi
  have hset := set_any B cap o t (bAt o i) w.drew h.drew ht hn
  have hkeep := mkA_keep o i t
  generalize bAt o i = b at *
  have H := Lib.hid h
  clear h
  go_enter Tryd.func25, Tryd.ntmps25
  go_wp2_with fail
  refine wp_region_held_drew (S := fun W => W.cell? ⟨c7, 0, none⟩ = some (.func (.func 23) #[] #[]) ∧ W.cell? ⟨c3, 0, none⟩ = some (.slice (some ⟨B, 0, none⟩) o.length cap) ∧ W.cell? ⟨B, i, none⟩ = some (.bool b)) (by kernel_rfl) ⟨h7, h3, c0⟩ (fun hHeld => ?_)
  have hset := hset
  refine H_take 0 (some 7) (v := ?v0) rfl rfl (by kernel_rfl) (by kernel_rfl) (by kernel_rfl) (fun _ _ _ h => h) (by rfl) hHeld ?y0 ?r0
  case y0 => (rintro W ⟨s1, s2, s3⟩; go_simp <;> with_reducible rfl)
  try simp only [Act.put, List.setIfInBounds_toArray, List.set_cons_zero, List.set_cons_succ]
  refine H_take 1 (some 8) (v := ?v1) rfl rfl (by kernel_rfl) (by kernel_rfl) (by kernel_rfl) (fun _ _ _ h => h) (by rfl) hHeld ?y1 ?r1
  case y1 => (rintro W ⟨s1, s2, s3⟩; go_simp <;> with_reducible rfl)
  try simp only [Act.put, List.setIfInBounds_toArray, List.set_cons_zero, List.set_cons_succ]
  refine H_take 2 (some 9) (v := ?v2) rfl rfl (by kernel_rfl) (by kernel_rfl) (by kernel_rfl) (fun _ _ _ h => h) (by rfl) hHeld ?y2 ?r2
  case y2 => (rintro W ⟨s1, s2, s3⟩; go_simp <;> with_reducible rfl)
  try simp only [Act.put, List.setIfInBounds_toArray, List.set_cons_zero, List.set_cons_succ]
  refine H_take 3 (some 10) (v := ?v3) rfl rfl (by kernel_rfl) (by kernel_rfl) (by kernel_rfl) (fun _ _ _ h => h) (by rfl) hHeld ?y3 ?r3
  case y3 => (rintro W ⟨s1, s2, s3⟩; go_simp <;> with_reducible rfl)
  try simp only [Act.put, List.setIfInBounds_toArray, List.set_cons_zero, List.set_cons_succ]
  refine H_take 4 (some 11) (v := ?v4) rfl rfl (by kernel_rfl) (by kernel_rfl) (by kernel_rfl) (fun _ _ _ h => h) (by rfl) hHeld ?y4 ?r4
  case y4 => (rintro W ⟨s1, s2, s3⟩; go_simp <;> with_reducible rfl)
  try simp only [Act.put, List.setIfInBounds_toArray, List.set_cons_zero, List.set_cons_succ]
  refine H_take 5 (some 12) (v := ?v5) rfl rfl (by kernel_rfl) (by kernel_rfl) (by kernel_rfl) (fun _ _ _ h => h) (by rfl) hHeld ?y5 ?r5
  case y5 => (rintro W ⟨s1, s2, s3⟩; go_simp <;> with_reducible rfl)
  try simp only [Act.put, List.setIfInBounds_toArray, List.set_cons_zero, List.set_cons_succ]
  refine H_take 6 (some 13) (v := ?v6) rfl rfl (by kernel_rfl) (by kernel_rfl) (by kernel_rfl) (fun _ _ _ h => h) (by rfl) hHeld ?y6 ?r6
  case y6 => (rintro W ⟨s1, s2, s3⟩; go_simp <;> with_reducible rfl)
  try simp only [Act.put, List.setIfInBounds_toArray, List.set_cons_zero, List.set_cons_succ]
  -- RUN 7 : Op.call { callee := Callee.value (Operand.tmp 7), args := #[Operand.tmp 8, Operand.tmp 9, Operand.tm
  refine H_run 7 (some 14) rfl rfl (by kernel_rfl) (by rfl) (fun K hK => ?_)
  go_simp
  refine hset.mono ?_
  rintro e w' ⟨rfl, hc, hmk⟩
  refine hK.out _ _ ⟨(hc.cell (p := ⟨c7, 0, none⟩) l7 n7).trans h7, (hc.cell (p := ⟨c3, 0, none⟩) l3 n3).trans h3, (hmk.cell (by rw [mkA_len]; exact hi)).trans (by rw [hkeep])⟩ (fun hHeld => ?_)
  clear hK
  try simp only [Act.put, List.setIfInBounds_toArray, List.set_cons_zero, List.set_cons_succ]
  refine H_take 8 (some 6) (v := ?v8) rfl rfl (by kernel_rfl) (by kernel_rfl) (by kernel_rfl) (fun _ _ _ h => h) (by rfl) hHeld ?y8 ?r8
  case y8 => (rintro W ⟨s1, s2, s3⟩; go_simp <;> with_reducible rfl)
  try simp only [Act.put, List.setIfInBounds_toArray, List.set_cons_zero, List.set_cons_succ]
  refine wpAnyH_done (by kernel_rfl) ?_ _
  go_wp2_with fail
  go_ret
  exact ⟨rfl, (Chg.drew _ w).trans hc, hmk⟩
set_option maxHeartbeats 4000000 in
set_option maxRecDepth 100000 in
theorem tel_any (c7 c3 B cap : Nat) (o : List Bool) (i t : Nat) (w : World) (h7 : w.cell? ⟨c7, 0, none⟩ = some (.func (.func 23) #[] #[])) (h3 : w.cell? ⟨c3, 0, none⟩ = some (.slice (some ⟨B, 0, none⟩) o.length cap)) (l7 : c7 < w.heap.size) (l3 : c3 < w.heap.size) (n7 : ¬ c7 = B) (n3 : ¬ c3 = B) (h : Mk w B o) (hi : i < o.length) (ht : t < o.length) (hn : o.length ≤ 1000000000) :
    Calls Tryd.prog 26 #[.int .i64 i, .int .i64 t, .pointer (some ⟨c7, 0, none⟩), .pointer (some ⟨c3, 0, none⟩)] w fun e w' => e = .returned (.bool (mkA o i (bAt o t)).2) ∧ Chg (fun x => x = B) w w' ∧ Mk w' B (mkA o i (bAt o t)).1 := by
  have c0 := h.cell ht
  have hset := set_any B cap o i (bAt o t) w.drew h.drew hi hn
  have hkeep := mkA_keep o t i
  generalize bAt o t = b at *
  have H := Lib.hid h
  clear h
  go_enter Tryd.func26, Tryd.ntmps26
  go_wp2_with fail
  refine wp_region_held_drew (S := fun W => W.cell? ⟨c7, 0, none⟩ = some (.func (.func 23) #[] #[]) ∧ W.cell? ⟨c3, 0, none⟩ = some (.slice (some ⟨B, 0, none⟩) o.length cap) ∧ W.cell? ⟨B, t, none⟩ = some (.bool b)) (by kernel_rfl) ⟨h7, h3, c0⟩ (fun hHeld => ?_)
  have hset := hset
  refine H_take 0 (some 7) (v := ?v0) rfl rfl (by kernel_rfl) (by kernel_rfl) (by kernel_rfl) (fun _ _ _ h => h) (by rfl) hHeld ?y0 ?r0
  case y0 => (rintro W ⟨s1, s2, s3⟩; go_simp <;> with_reducible rfl)
  try simp only [Act.put, List.setIfInBounds_toArray, List.set_cons_zero, List.set_cons_succ]
  refine H_take 1 (some 8) (v := ?v1) rfl rfl (by kernel_rfl) (by kernel_rfl) (by kernel_rfl) (fun _ _ _ h => h) (by rfl) hHeld ?y1 ?r1
  case y1 => (rintro W ⟨s1, s2, s3⟩; go_simp <;> with_reducible rfl)
  try simp only [Act.put, List.setIfInBounds_toArray, List.set_cons_zero, List.set_cons_succ]
  refine H_take 2 (some 9) (v := ?v2) rfl rfl (by kernel_rfl) (by kernel_rfl) (by kernel_rfl) (fun _ _ _ h => h) (by rfl) hHeld ?y2 ?r2
  case y2 => (rintro W ⟨s1, s2, s3⟩; go_simp <;> with_reducible rfl)
  try simp only [Act.put, List.setIfInBounds_toArray, List.set_cons_zero, List.set_cons_succ]
  refine H_take 3 (some 10) (v := ?v3) rfl rfl (by kernel_rfl) (by kernel_rfl) (by kernel_rfl) (fun _ _ _ h => h) (by rfl) hHeld ?y3 ?r3
  case y3 => (rintro W ⟨s1, s2, s3⟩; go_simp <;> with_reducible rfl)
  try simp only [Act.put, List.setIfInBounds_toArray, List.set_cons_zero, List.set_cons_succ]
  refine H_take 4 (some 11) (v := ?v4) rfl rfl (by kernel_rfl) (by kernel_rfl) (by kernel_rfl) (fun _ _ _ h => h) (by rfl) hHeld ?y4 ?r4
  case y4 => (rintro W ⟨s1, s2, s3⟩; go_simp <;> with_reducible rfl)
  try simp only [Act.put, List.setIfInBounds_toArray, List.set_cons_zero, List.set_cons_succ]
  refine H_take 5 (some 12) (v := ?v5) rfl rfl (by kernel_rfl) (by kernel_rfl) (by kernel_rfl) (fun _ _ _ h => h) (by rfl) hHeld ?y5 ?r5
  case y5 => (rintro W ⟨s1, s2, s3⟩; go_simp <;> with_reducible rfl)
  try simp only [Act.put, List.setIfInBounds_toArray, List.set_cons_zero, List.set_cons_succ]
  refine H_take 6 (some 13) (v := ?v6) rfl rfl (by kernel_rfl) (by kernel_rfl) (by kernel_rfl) (fun _ _ _ h => h) (by rfl) hHeld ?y6 ?r6
  case y6 => (rintro W ⟨s1, s2, s3⟩; go_simp <;> with_reducible rfl)
  try simp only [Act.put, List.setIfInBounds_toArray, List.set_cons_zero, List.set_cons_succ]
  -- RUN 7 : Op.call { callee := Callee.value (Operand.tmp 7), args := #[Operand.tmp 8, Operand.tmp 9, Operand.tm
  refine H_run 7 (some 14) rfl rfl (by kernel_rfl) (by rfl) (fun K hK => ?_)
  go_simp
  refine hset.mono ?_
  rintro e w' ⟨rfl, hc, hmk⟩
  refine hK.out _ _ ⟨(hc.cell (p := ⟨c7, 0, none⟩) l7 n7).trans h7, (hc.cell (p := ⟨c3, 0, none⟩) l3 n3).trans h3, (hmk.cell (by rw [mkA_len]; exact ht)).trans (by rw [hkeep])⟩ (fun hHeld => ?_)
  clear hK
  try simp only [Act.put, List.setIfInBounds_toArray, List.set_cons_zero, List.set_cons_succ]
  refine H_take 8 (some 6) (v := ?v8) rfl rfl (by kernel_rfl) (by kernel_rfl) (by kernel_rfl) (fun _ _ _ h => h) (by rfl) hHeld ?y8 ?r8
  case y8 => (rintro W ⟨s1, s2, s3⟩; go_simp <;> with_reducible rfl)
  try simp only [Act.put, List.setIfInBounds_toArray, List.set_cons_zero, List.set_cons_succ]
  refine wpAnyH_done (by kernel_rfl) ?_ _
  go_wp2_with fail
  go_ret
  exact ⟨rfl, (Chg.drew _ w).trans hc, hmk⟩
end Go.Proofs.YtcpcghnpoekhpaaDoor
/- Machines: which states are needed, by hand. -/
set_option linter.unusedSimpArgs false
set_option linter.unusedVariables false
set_option maxRecDepth 100000
set_option maxHeartbeats 4000000
namespace Go.Proofs.YtcpcghnpoekhpaaDoor
open Go Go.RowKit Go.Proofs
open A (Eg Sta eAt mAt bAt cntR nM mC nE eC vI CRep)
theorem right_any (m : List Sta) (hs : A.SzM m) (hv : A.Vm 6 m) (w : World) (S : Nat → Prop) (v : Value) (hlow : ∀ b, S b → b < w.heap.size) (hg : A.Gnd w S) (hr : CRep w S v (.sl (nM m) (mC m))) :
  Calls Tryd.prog 21 #[v] w fun e w' => e = .returned (.bool true) ∧ Below w.heap.size w w' := by
 have hp := A.pc_right m hs
 have hq : A.validM m 9223372036854775807 = true := A.vm_iff.2 ⟨hv.pos, hv.out, fun i hi e he => by have := hv.edge i hi e he; omega, hv.rise⟩
 rw [hq] at hp
 refine A.walk_of_pc (vs := [v]) hp (fun x hx => by rw [List.mem_singleton.1 hx]; rfl) S hlow rfl (fun i h h2 => ?_) rfl hg
 have hi : i = 0 := by have : i < 1 := h; omega
 subst hi
 exact ⟨_, rfl, hr⟩
theorem made_bools (n : Nat) : madeCells (Value.bool false).cells (n * 1) = ((List.replicate n false).map Value.bool).toArray := by
 apply Array.ext
 ·simp [madeCells]
 ·intro k h1 h2
  simp only [madeCells, Array.getElem_map, Array.getElem_range]
  have e : k % (Value.bool false).cells.size = 0 := Nat.mod_one k
  rw [e]
  simp
  rfl
def Four (w W : World) (n B1 B2 c3 c4 : Nat) : Prop := Below w.heap.size w W ∧ (w.heap.size ≤ B1 ∧ w.heap.size ≤ B2 ∧ w.heap.size ≤ c3 ∧ w.heap.size ≤ c4) ∧ (B1 < W.heap.size ∧ B2 < W.heap.size ∧ c3 < W.heap.size ∧ c4 < W.heap.size) ∧ (B1 ≠ B2 ∧ c3 ≠ B1 ∧ c3 ≠ B2 ∧ c4 ≠ B1 ∧ c4 ≠ B2 ∧ c3 ≠ c4) ∧ Mk W B1 (List.replicate n false) ∧ Mk W B2 (List.replicate n false) ∧ W.heap[c3]? = some (.cells #[.slice (some ⟨B1, 0, none⟩) n n] 25 (0, 0)) ∧ W.heap[c4]? = some (.cells #[.slice (some ⟨B2, 0, none⟩) n n] 25 (0, 0))
theorem four_heap (w : World) (o0 o1 o2 o3 : Obj) : ((((w.alloc o0).alloc o1).alloc o2).alloc o3).drew.heap[w.heap.size]? = some o0 ∧ ((((w.alloc o0).alloc o1).alloc o2).alloc o3).drew.heap[w.heap.size + 1]? = some o1 ∧ ((((w.alloc o0).alloc o1).alloc o2).alloc o3).drew.heap[w.heap.size + 1 + 1]? = some o2 ∧ ((((w.alloc o0).alloc o1).alloc o2).alloc o3).drew.heap[w.heap.size + 1 + 1 + 1]? = some o3 ∧ ((((w.alloc o0).alloc o1).alloc o2).alloc o3).drew.heap.size = w.heap.size + 1 + 1 + 1 + 1 := by
 have e : ((((w.alloc o0).alloc o1).alloc o2).alloc o3).drew.heap = (((w.heap.push o0).push o1).push o2).push o3 := rfl
 rw [e]
 have h1 : ∀ (h : Array Obj) (o : Obj) (k : Nat), k < h.size → (h.push o)[k]? = h[k]? := fun h o k hk => by rw [Array.getElem?_push, if_neg (by omega)]
 have h2 : ∀ (h : Array Obj) (o : Obj) (k : Nat), k = h.size → (h.push o)[k]? = some o := fun h o k hk => by rw [Array.getElem?_push, if_pos hk]
 exact ⟨by rw [h1 _ _ _ (by simp only [Array.size_push]; omega), h1 _ _ _ (by simp only [Array.size_push]; omega), h1 _ _ _ (by simp only [Array.size_push]; omega), h2 _ _ _ rfl], by rw [h1 _ _ _ (by simp only [Array.size_push]; omega), h1 _ _ _ (by simp only [Array.size_push]; omega), h2 _ _ _ (by simp only [Array.size_push])], by rw [h1 _ _ _ (by simp only [Array.size_push]; omega), h2 _ _ _ (by simp only [Array.size_push])], h2 _ _ _ (by simp only [Array.size_push]), by simp⟩
theorem mk_rep {W : World} {B n : Nat} (h : W.heap[B]? = some (.cells (Array.replicate n (.bool false)) 4 (0, 0))) : Mk W B (List.replicate n false) := by
 show _ = _
 rw [h]; simp
theorem run_mk (n : Nat) (hn : n ≤ 1000000) (w : World) : (Instr.makeSlice 25 (.int .i64 n) (.int .i64 n)).run Tryd.prog w = .ok (.slice (some ⟨w.heap.size, 0, none⟩) n n) (w.alloc (.cells ((List.replicate n false).map Value.bool).toArray 4)) := by
 obtain ⟨h1, ie, h2, h3, h4, h5, _⟩ := A.tok 4 _ rfl
 have h3 : ie.size = 1 := h3
 have h4 : ie.bytes = 1 := h4
 have hd : Tryd.prog.underlying 25 = some (TypeDesc.slice 4) := Tryd.underlying25
 have := run_make (P := Tryd.prog) w 25 4 ie (.bool false) hd h2 h5 .i64 .i64 n n (by omega) (by omega) (by rw [h4]; omega) (by omega)
 rw [this, h3]
 rw [Int.toNat_natCast, made_bools]
theorem met_spread {m : List Sta} (hv : A.Vm 6 m) (hn : m.length ≤ 1000000) (hne : ∀ i, i < m.length → (mAt m i).2.length ≤ 1000000) {B0 B c7 c3 cap : Nat} {a : Option Addr} {X : World} (h7 : X.heap[c7]? = some (.cells #[.func (.func 23) #[] #[]] 42 (0, 0))) (h3 : X.heap[c3]? = some (.cells #[.slice (some ⟨B, 0, none⟩) m.length m.length] 25 (0, 0))) (n7 : ¬ c7 = B) (n3 : ¬ c3 = B) (hst : StsIn B0 X a m) (hB : B0 ≤ B) (hl : B < X.heap.size) {o : List Bool} (ho : Mk X B o) (hJ : JMet m o) :
  Calls Tryd.prog 24 #[.slice a m.length cap, .slice (some ⟨B, 0, none⟩) m.length m.length, .func (.func 25) #[] #[.pointer (some ⟨c7, 0, none⟩), .pointer (some ⟨c3, 0, none⟩)]] X fun e w' => e = .returned (.slice (some ⟨B, 0, none⟩) m.length m.length) ∧ Chg (fun x => x = B) X w' ∧ ∃ o', Mk w' B o' ∧ o'.length = m.length ∧ JMet m o' ∧ NT metM m o' m.length := by
 refine spread_any 25 (A.enters Tryd.func25 (by kernel_rfl) (by kernel_rfl)) _ _ B0 B a cap m.length m metM (JMet m) o X hv hn hne (mark_met hv) hst hB hl ho hJ.1 hJ ?_
 intro wr o i t hc hmk hl2 hi ht
 have g7 : wr.heap[c7]? = _ := (hc.block c7 (lt_of_block h7) n7).trans h7
 have g3 : wr.heap[c3]? = _ := (hc.block c3 (lt_of_block h3) n3).trans h3
 have q := hc.size
 exact met_any c7 c3 B m.length o i t wr (by rw [cell_of_row _ c7 0 _ _ _ g7]; rfl) (by rw [cell_of_row _ c3 0 _ _ _ g3, hl2]; rfl) (lt_of_block g7) (lt_of_block g3) n7 n3 hmk (by omega) (by omega) (by omega)
theorem tel_spread {m : List Sta} (hv : A.Vm 6 m) (hn : m.length ≤ 1000000) (hne : ∀ i, i < m.length → (mAt m i).2.length ≤ 1000000) {B0 B c7 c3 cap : Nat} {a : Option Addr} {X : World} (h7 : X.heap[c7]? = some (.cells #[.func (.func 23) #[] #[]] 42 (0, 0))) (h3 : X.heap[c3]? = some (.cells #[.slice (some ⟨B, 0, none⟩) m.length m.length] 25 (0, 0))) (n7 : ¬ c7 = B) (n3 : ¬ c3 = B) (hst : StsIn B0 X a m) (hB : B0 ≤ B) (hl : B < X.heap.size) {o : List Bool} (ho : Mk X B o) (hJ : JTel m o) :
  Calls Tryd.prog 24 #[.slice a m.length cap, .slice (some ⟨B, 0, none⟩) m.length m.length, .func (.func 26) #[] #[.pointer (some ⟨c7, 0, none⟩), .pointer (some ⟨c3, 0, none⟩)]] X fun e w' => e = .returned (.slice (some ⟨B, 0, none⟩) m.length m.length) ∧ Chg (fun x => x = B) X w' ∧ ∃ o', Mk w' B o' ∧ o'.length = m.length ∧ JTel m o' ∧ NT telM m o' m.length := by
 refine spread_any 26 (A.enters Tryd.func26 (by kernel_rfl) (by kernel_rfl)) _ _ B0 B a cap m.length m telM (JTel m) o X hv hn hne (mark_tel hv) hst hB hl ho hJ.1 hJ ?_
 intro wr o i t hc hmk hl2 hi ht
 have g7 : wr.heap[c7]? = _ := (hc.block c7 (lt_of_block h7) n7).trans h7
 have g3 : wr.heap[c3]? = _ := (hc.block c3 (lt_of_block h3) n3).trans h3
 have q := hc.size
 exact tel_any c7 c3 B m.length o i t wr (by rw [cell_of_row _ c7 0 _ _ _ g7]; rfl) (by rw [cell_of_row _ c3 0 _ _ _ g3, hl2]; rfl) (lt_of_block g7) (lt_of_block g3) n7 n3 hmk (by omega) (by omega) (by omega)
set_option maxHeartbeats 4000000 in
set_option maxRecDepth 100000 in
theorem useful_any (m : List Sta) (hs : A.SzM m) (hv : A.Vm 6 m) (hn : m.length ≤ 1000000) (hne : ∀ i, i < m.length → (mAt m i).2.length ≤ 1000000) (w : World) (S : Nat → Prop) (v : Value) (hlow : ∀ b, S b → b < w.heap.size) (hg : A.Gnd w S) (hr : CRep w S v (.sl (nM m) (mC m))) :
    Calls Tryd.prog 9 #[v] w fun e w' => ∃ B, e = .returned (.slice (some ⟨B, 0, none⟩) m.length m.length) ∧ Below w.heap.size w w' ∧ w.heap.size ≤ B ∧ Mk w' B (A.useM m) := by
  have hright := right_any m hs hv w S v hlow hg hr
  obtain ⟨a, cap, rfl, hst⟩ := sts_in hr hlow
  have h00 := hv.pos
  have HST := Lib.hid hst
  have HV := Lib.hid hv
  have HNE := Lib.hid hne
  clear hst hv hne hs hr hg hlow
  go_enter Tryd.func9, Tryd.ntmps9
  go_wp2_with fail
  refine hright.mono ?_
  rintro e w1 ⟨rfl, hb1⟩
  have HB1 := Lib.hid hb1
  clear hb1 hright
  go_wp2_with fail
  have hmk := run_mk m.length hn
  rename_i K hK
  have hrest : ∀ (W : World) (B1 B2 c3 c4 : Nat), Four w W m.length B1 B2 c3 c4 → K ⟨#[.slice a m.length cap, undef, .slice none 0 0, .pointer (some ⟨c3, 0, none⟩), .pointer (some ⟨c4, 0, none⟩), undef, undef, undef, undef, .slice a m.length cap, .bool true, .bool false, .slice a m.length cap, .int .i64 m.length, .slice (some ⟨B1, 0, none⟩) m.length m.length, .slice a m.length cap, .int .i64 m.length, .slice (some ⟨B2, 0, none⟩) m.length m.length, undef, undef, undef, undef, undef, undef, undef, undef, undef, undef, undef, undef, undef, undef, undef, undef, undef, undef, undef, undef, undef, undef, undef, undef, undef, undef, undef, undef, undef, undef, undef, undef, undef, undef, undef, undef, undef, undef, undef, undef, undef, undef, undef, undef], []⟩ W := by
    intro W B1 B2 c3 c4 hF
    obtain ⟨hbW, ⟨l1, l2, l3, l4⟩, ⟨u1, u2, u3, u4⟩, ⟨n12, n31, n32, n41, n42, n34⟩, m1, m2, g3, g4⟩ := hF
    refine hK _ _ ?_
    clear hK
    have x3 : W.cell? ⟨c3, 0, none⟩ = some (.slice (some ⟨B1, 0, none⟩) m.length m.length) := by rw [cell_of_row _ c3 0 _ _ _ g3]; rfl
    have x1 := m1.cell (k := 0) (by simpa using h00)
    have f1 := m1.fz 0
    have m1' := m1.set 0 true
    have hc1 := Chg.of_setCell W ⟨B1, 0, none⟩ (.bool true)
    obtain ⟨W1, hW1⟩ : ∃ W1, W1 = W.setCell ⟨B1, 0, none⟩ (.bool true) := ⟨_, rfl⟩
    rw [← hW1] at m1' hc1
    have hz1 : W.heap.size ≤ W1.heap.size := hc1.size
    have g31 : W1.heap[c3]? = some (.cells #[.slice (some ⟨B1, 0, none⟩) m.length m.length] 25 (0, 0)) := (hc1.block c3 u3 n31).trans g3
    have g41 : W1.heap[c4]? = some (.cells #[.slice (some ⟨B2, 0, none⟩) m.length m.length] 25 (0, 0)) := (hc1.block c4 u4 n41).trans g4
    have m21 := m2.frame (hc1.block B2 u2 (fun e => n12 e.symm))
    have hbW1 : Below w.heap.size w W1 := hbW.trans (hc1.below hbW.size fun k _ hk => by subst hk; exact l1)
    have HM1 := Lib.hid m1'
    have HM2 := Lib.hid m21
    have HG3 := Lib.hid g31
    have HG4 := Lib.hid g41
    have HBW := Lib.hid hbW1
    have HW1 := Lib.hid hW1
    clear m1 m2 g3 g4 hbW hc1 m1' m21 g31 g41 hbW1 hW1
    go_wp2_with fail
    rw [← HW1.out]
    clear x3 x1 f1
    go_loopw [22] (fun v wr => ∃ (k : Nat), v = .int .i64 k ∧ k ≤ m.length ∧ Chg (fun x => x = B2) W1 wr ∧ Mk wr B2 (tl0 m k)) (fun v _ => m.length - (intOf v).toNat)
    case atStart => exact ⟨0, rfl, Nat.zero_le _, Chg.refl _ _, by rw [tl0_zero]; exact HM2.out⟩
    case round =>
      obtain ⟨k, rfl, hk, hch, hmk⟩ := hrel
      by_cases hkl : k < m.length
      · have hbr := HBW.out.trans (hch.below HBW.out.size fun x _ hx => by subst hx; exact l2)
        have hblk : ∀ b, b < w.heap.size → wr.heap[b]? = w.heap[b]? := fun b hb => hbr.block b hb
        obtain ⟨mb, moff, rfl, hmb, hmc⟩ := HST.out h00
        obtain ⟨c0, ev, c1, ea, ecap, rfl, _⟩ := hmc k hkl
        have d0 := (World.cell?_of_block (a := ⟨mb, moff + k * 2, none⟩) (hblk mb hmb)).trans c0
        have d1 := (World.cell?_of_block (a := ⟨mb, moff + k * 2 + 1, none⟩) (hblk mb hmb)).trans c1
        have hstep := tl0_step hkl
        generalize (mAt m k).1 = eo at *
        generalize (mAt m k).2.length = el at *
        obtain ⟨W2, hW2⟩ : ∃ W2, W2 = wr.alloc (.cells #[.int .i64 eo, .slice ea el ecap] 35) := ⟨_, rfl⟩
        have hc2 : Chg (fun x => x = B2) wr W2 := by rw [hW2]; exact Chg.alloc _ _ _
        have hzr := hch.size
        have hz2 : wr.heap.size < W2.heap.size := by rw [hW2]; simp
        have e0 : W2.cell? ⟨wr.heap.size, 0, none⟩ = some (.int .i64 eo) := by rw [hW2, cell_of_row _ _ 0 _ _ _ (heap_alloc_new wr _)]; rfl
        have y4 : W2.cell? ⟨c4, 0, none⟩ = some (.slice (some ⟨B2, 0, none⟩) m.length m.length) := by
          have g : W2.heap[c4]? = _ := (hc2.block c4 (by omega) n42).trans ((hch.block c4 (by omega) n42).trans HG4.out)
          rw [cell_of_row _ c4 0 _ _ _ g]; rfl
        have hmk2 : Mk W2 B2 (tl0 m k) := hmk.frame (by rw [hW2]; exact Below.heap_alloc _ _ _ (by omega))
        have y2 := hmk2.cell (k := k) (by rw [tl0_len]; exact hkl)
        have fy := hmk2.fz k
        have hmk3 := hmk2.set k (decide (eo ≥ 0))
        rw [hstep] at hmk3
        have hc3 := (hch.trans hc2).trans (Chg.of_setCell W2 ⟨B2, k, none⟩ (.bool (decide (eo ≥ 0))))
        have HM3 := Lib.hid hmk3
        have HC3 := Lib.hid hc3
        clear hmk hmk2 hmk3 hc3 hstep hc2 hmc hblk hbr c0 c1 hch
        subst hW2
        go_wp2_with fail
        go_roundw
        case rel => exact ⟨k + 1, by go_num, by omega, HC3.out, HM3.out⟩
        case measure => simp [intOf]; omega
      · have hke : k = m.length := by omega
        subst hke
        have hzr := hch.size
        have g3r : wr.heap[c3]? = _ := (hch.block c3 (by omega) n32).trans HG3.out
        have g4r : wr.heap[c4]? = _ := (hch.block c4 (by omega) n42).trans HG4.out
        have m1r := HM1.out.frame (hch.block B1 (by omega) n12)
        have hbr := HBW.out.trans (hch.below HBW.out.size fun x _ hx => by subst hx; exact l2)
        have hzw := hbr.size
        -- the function in its box
        obtain ⟨W2, hW2⟩ : ∃ W2, W2 = wr.alloc (.cells #[.func (.func 23) #[] #[]] 42) := ⟨_, rfl⟩
        have hc2 : Chg (fun _ => False) wr W2 := by rw [hW2]; exact Chg.alloc _ _ _
        have hz2 : W2.heap.size = wr.heap.size + 1 := by rw [hW2]; simp
        have g72 : W2.heap[wr.heap.size]? = some (.cells #[.func (.func 23) #[] #[]] 42 (0, 0)) := by rw [hW2]; exact heap_alloc_new wr _
        have g32 : W2.heap[c3]? = _ := (hc2.block c3 (by omega) id).trans g3r
        have g42 : W2.heap[c4]? = _ := (hc2.block c4 (by omega) id).trans g4r
        have m12 := m1r.frame (hc2.block B1 (by omega) id)
        have m22 := hmk.frame (hc2.block B2 (by omega) id)
        have hb2 : Below w.heap.size w W2 := hbr.trans (hc2.below hbr.size fun _ _ h => h.elim)
        have x32 : W2.cell? ⟨c3, 0, none⟩ = some (.slice (some ⟨B1, 0, none⟩) m.length m.length) := by rw [cell_of_row _ c3 0 _ _ _ g32]; rfl
        subst hW2
        have H3 := Lib.hid g32
        have H4 := Lib.hid g42
        have H7 := Lib.hid g72
        have HA := Lib.hid m12
        have HB := Lib.hid m22
        have HBB := Lib.hid hb2
        clear g3r g4r m1r hbr hc2 hmk hch g32 g42 g72 m12 m22 hb2
        have hst2 := HST.out.frame (fun b hb => HBB.out.block b hb)
        have hcall := met_spread (cap := cap) HV.out hn HNE.out H7.out H3.out (by omega) n31 hst2 l1 (by omega) HA.out (jmet0 HV.out)
        have HS := Lib.hid hcall
        clear hcall hst2
        go_wp2_with fail
        refine HS.out.mono ?_
        rintro e W3 ⟨rfl, hc3, u, hu1, hu2, hu3, hu4⟩
        have g33 : W3.heap[c3]? = _ := (hc3.block c3 (by omega) n31).trans H3.out
        have g43 : W3.heap[c4]? = _ := (hc3.block c4 (by omega) n41).trans H4.out
        have g73 : W3.heap[wr.heap.size]? = _ := (hc3.block wr.heap.size (by omega) (by omega)).trans H7.out
        have m23 := HB.out.frame (hc3.block B2 (by omega) (fun e => n12 e.symm))
        have hb3 : Below w.heap.size w W3 := HBB.out.trans (hc3.below HBB.out.size fun x _ hx => by subst hx; exact l1)
        have hz3 := hc3.size
        have x43 : W3.cell? ⟨c4, 0, none⟩ = some (.slice (some ⟨B2, 0, none⟩) m.length m.length) := by rw [cell_of_row _ c4 0 _ _ _ g43]; rfl
        have hcall := tel_spread (cap := cap) HV.out hn HNE.out g73 g43 (by omega) n42 (HST.out.frame (fun b hb => hb3.block b hb)) l2 (by omega) m23 (jtel0 m)
        have HS3 := Lib.hid hcall
        have HU1 := Lib.hid hu1
        have HU2 := Lib.hid hu2
        have HU3 := Lib.hid hu3
        have HU4 := Lib.hid hu4
        have HB3 := Lib.hid hb3
        have G33 := Lib.hid g33
        have G43 := Lib.hid g43
        clear HS hc3 hu1 hu2 hu3 hu4 g33 g43 g73 m23 hb3 hcall x32
        go_wp2_with fail
        refine HS3.out.mono ?_
        rintro e W4 ⟨rfl, hc4, v, hv1, hv2, hv3, hv4⟩
        have g34 : W4.heap[c3]? = _ := (hc4.block c3 (by omega) n32).trans G33.out
        have g44 : W4.heap[c4]? = _ := (hc4.block c4 (by omega) n42).trans G43.out
        have mu4 := HU1.out.frame (hc4.block B1 (by omega) n12)
        have hb4 : Below w.heap.size w W4 := HB3.out.trans (hc4.below HB3.out.size fun x _ hx => by subst hx; exact l2)
        have hz4 := hc4.size
        have x34 : W4.cell? ⟨c3, 0, none⟩ = some (.slice (some ⟨B1, 0, none⟩) m.length m.length) := by rw [cell_of_row _ c3 0 _ _ _ g34]; rfl
        have HV1 := Lib.hid hv1
        have HV2 := Lib.hid hv2
        have HV3 := Lib.hid hv3
        have HV4 := Lib.hid hv4
        have HB4 := Lib.hid hb4
        have G34 := Lib.hid g34
        have G44 := Lib.hid g44
        have MU4 := Lib.hid mu4
        clear HS3 hc4 hv1 hv2 hv3 hv4 g34 g44 mu4 hb4 x43
        go_wp2_with fail
        go_loopw [44] (fun z wr => ∃ (k : Nat), z = .int .i64 k ∧ k ≤ m.length ∧ Chg (fun x => x = B1) W4 wr ∧ Mk wr B1 (bothM u v k)) (fun z _ => m.length - (intOf z).toNat)
        case atStart => exact ⟨0, rfl, Nat.zero_le _, Chg.refl _ _, by rw [both_zero]; exact MU4.out⟩
        case round =>
          obtain ⟨k, rfl, hk, hch, hmk⟩ := hrel
          by_cases hkl : k < m.length
          · have g3 : wr.heap[c3]? = _ := (hch.block c3 (by omega) n31).trans G34.out
            have g4 : wr.heap[c4]? = _ := (hch.block c4 (by omega) n41).trans G44.out
            have x3 : wr.cell? ⟨c3, 0, none⟩ = some (.slice (some ⟨B1, 0, none⟩) m.length m.length) := by rw [cell_of_row _ c3 0 _ _ _ g3]; rfl
            have x4 : wr.cell? ⟨c4, 0, none⟩ = some (.slice (some ⟨B2, 0, none⟩) m.length m.length) := by rw [cell_of_row _ c4 0 _ _ _ g4]; rfl
            have mv := HV1.out.frame (hch.block B2 (by omega) (fun e => n12 e.symm))
            have hul := HU2.out
            have y1 := hmk.cell (k := k) (by rw [both_len, hul]; exact hkl)
            have y2 := mv.cell (k := k) (by rw [HV2.out]; exact hkl)
            have fy := hmk.fz k
            have hset := hmk.set k (bAt u k && bAt v k)
            rw [both_step (by omega)] at hset
            rw [both_at (by omega), if_neg (by omega)] at y1
            have hcs := hch.trans (Chg.of_setCell wr ⟨B1, k, none⟩ (.bool (bAt u k && bAt v k)))
            have HSET := Lib.hid hset.drew
            have HCS := Lib.hid (hcs.trans (Chg.drew _ _))
            generalize bAt u k = bu at *
            generalize bAt v k = bv at *
            clear hset hcs hmk mv g3 g4 hch hul
            cases bu <;> (
              go_wp2_with fail
              go_still_tail 13, (by kernel_rfl)
              go_wp2_with fail
              go_roundw
              case rel => exact ⟨k + 1, by go_num, by omega, HCS.out, HSET.out⟩
              case measure => simp [intOf]; omega)
          · have hke : k = m.length := by omega
            subst hke
            have g3 : wr.heap[c3]? = _ := (hch.block c3 (by omega) n31).trans G34.out
            have x3 : wr.cell? ⟨c3, 0, none⟩ = some (.slice (some ⟨B1, 0, none⟩) m.length m.length) := by rw [cell_of_row _ c3 0 _ _ _ g3]; rfl
            have hb5 : Below w.heap.size w wr := HB4.out.trans (hch.below HB4.out.size fun x _ hx => by subst hx; exact l1)
            have HB5 := Lib.hid hb5
            rw [both_use HV.out HU3.out HU4.out HV3.out HV4.out] at hmk
            have HMK := Lib.hid hmk
            clear hb5 hmk hch g3
            go_wp2_with fail
            go_ret
            exact ⟨B1, rfl, HB5.out, l1, HMK.out⟩
  have HR := Lib.hid hrest
  clear hrest
  go_region_held3 (fun _ => True) (trivial) (first | fail)
  all_goals
    refine HR.out _ _ _ _ _ ?_
    have hz := HB1.out.size
    have g := fun o0 o1 o2 o3 => four_heap w1 o0 o1 o2 o3
    refine ⟨?_, by omega, by (rw [(g _ _ _ _).2.2.2.2]; omega), by omega, mk_rep (by first | exact (g _ _ _ _).1 | exact (g _ _ _ _).2.1 | exact (g _ _ _ _).2.2.1 | exact (g _ _ _ _).2.2.2.1), mk_rep (by first | exact (g _ _ _ _).1 | exact (g _ _ _ _).2.1 | exact (g _ _ _ _).2.2.1 | exact (g _ _ _ _).2.2.2.1), by first | exact (g _ _ _ _).1 | exact (g _ _ _ _).2.1 | exact (g _ _ _ _).2.2.1 | exact (g _ _ _ _).2.2.2.1, by first | exact (g _ _ _ _).1 | exact (g _ _ _ _).2.1 | exact (g _ _ _ _).2.2.1 | exact (g _ _ _ _).2.2.2.1⟩
    exact (HB1.out.trans ((((((Below.refl _ w1).alloc (Nat.le_refl _) _).alloc (by simp <;> omega) _).alloc (by simp <;> omega) _).alloc (by simp <;> omega) _).mono HB1.out.size)).drew
end Go.Proofs.YtcpcghnpoekhpaaDoor
/- Machines: the contract of Useful. -/
set_option linter.unusedSimpArgs false
set_option linter.unusedVariables false
set_option maxRecDepth 100000
set_option maxHeartbeats 4000000
namespace Go.Proofs.YtcpcghnpoekhpaaDoor.A
open Go Go.RowKit Go.Proofs
abbrev bT5 : TypeId := 4
theorem mk_own {w : World} {S : Nat → Prop} {B : Nat} {o : List Bool} (h : Mk w B o) (hl : o.length ≤ 1000000) : RCRep T w S (.of (.slice (some ⟨B, 0, none⟩) o.length o.length)) (.own bT5 o.length (bC o)) := by
 refine ⟨o.map Value.bool, ⟨?_, .inr ⟨B, o.length, _, rfl, Nat.zero_le _, h, Nat.le_refl _, ?_, ?_, ?_⟩⟩, ?_, fun j h1 h2 => ?_⟩
 ·show _ = o.length * 1
  simp
 ·unfold maxLen; omega
 ·show _ = o.length * 1
  simp
 ·show List.take (o.length * 1) _ = _
  rw [Nat.mul_one, List.take_of_length_le (by simp)]
 ·rw [bC_len, nB_eq]; simp
 ·have e : (bC o)[j] = .val (o.map Value.bool)[j] := by
   have e1 : (o.map Value.bool)[j] = Value.bool (o[j]'(by simpa using h2)) := List.getElem_map ..
   rw [e1]
   exact List.getElem_map (f := fun b => vB b) (l := o) (i := j) (h := h1)
  rw [e]
  refine .val ?_
  rw [List.getElem_map]
  rfl
theorem pc_none {P : Program} {T : TT} {f : FuncId} {args : List Arg} {ret : RV} (h : PC P T f args ret [.none]) : PC P T f args ret [] := by
 intro w S bx ph vs hh hl ha
 refine (h w S bx ph vs hh hl ha).mono ?_
 rintro e w' ⟨v, S', bx', ph', rfl, g⟩
 have hg : ∀ (x : Root) t, [x, Root.none].getD t .none = [x].getD t .none := fun x t => by
  match t with
  | 0 => rfl
  | 1 => rfl
  | t + 2 => simp
 have ho : ∀ (x : Root) t κ b, owns [x] bx' ph' t κ b ↔ owns [x, Root.none] bx' ph' t κ b := fun x t κ b => by
  cases κ <;> simp only [owns, hg]
 refine ⟨v, S', bx', ph', rfl, ⟨fun t => ?_, fun t κ t' κ' b b1 b2 => ?_, fun t κ b b1 => ?_, g.heap.low⟩, g.val, g.same, g.keep, g.new, fun t κ b hb => g.mine t κ b ((ho _ t κ b).1 hb), g.chg⟩
 ·rw [← hg]; exact g.heap.root t
 ·exact g.heap.inj t κ t' κ' b ((ho _ _ _ _).1 b1) ((ho _ _ _ _).1 b2)
 ·exact g.heap.free t κ b ((ho _ _ _ _).1 b1)
theorem pc_Useful (m : List Sta) (hs : SzM m) (hv : Vm 6 m) (hn : m.length ≤ 1000000) (hne : ∀ i, i < m.length → (mAt m i).2.length ≤ 1000000) : PC Tryd.prog T 9 [.v false [.sl (nM m) (mC m)]] (ret1 (.own bT5 (nM m) (bC (useM m)))) [] := by
 have e0 : (useM m).length = nM m := by rw [useM_len, nM_eq]
 refine pc_none (pc_fresh (args := [.v false [.sl (nM m) (mC m)]]) ?_)
 intro w S bx ph vs hh hl ha
 match vs, hl with
 | [v], _ =>
  obtain ⟨c, hc, hr⟩ : ∃ c, [C.sl (nM m) (mC m)] = [c] ∧ CRep w S v c := ha 0 (by simp) (by simp)
  cases hc
  refine (useful_any m hs hv hn hne w S v hh.low.1 hh.low.2 hr).mono ?_
  rintro e w' ⟨B, rfl, hb, hB, hm⟩
  refine ⟨_, rfl, hb, ?_, fun g hg => ?_⟩
  ·have h1 := mk_own (S := S) hm (by rw [useM_len]; exact hn)
   rw [useM_len, ← nM_eq] at h1
   rw [← nM_eq]
   exact h1
  ·obtain rfl : B = g := Option.some.inj hg
   exact ⟨hB, lt_of_block hm⟩
end Go.Proofs.YtcpcghnpoekhpaaDoor.A
/- Machines: Make, Is, Like, awake: the contracts. -/
set_option linter.unusedSimpArgs false
set_option linter.unusedVariables false
set_option maxRecDepth 100000
set_option maxHeartbeats 4000000
namespace Go.Proofs.YtcpcghnpoekhpaaDoor.A
open Go
set_option linter.unusedVariables false
structure MOk (m : List Sta) : Prop where
 v : Vm 6 m
 n : m.length ≤ 1000
 e : ∀ k, k < m.length → (mAt m k).2.length ≤ 1000
 o : ∀ k, k < m.length → (mAt m k).1 ≤ 9223372036854775807
theorem MOk.sz {m : List Sta} (h : MOk m) : SzM m := ⟨by have := h.n; omega, fun s hs => by
 obtain ⟨i, hi, rfl⟩ := List.mem_iff_getElem.1 hs
 have := h.e i hi
 rw [mAt_get hi] at this; omega⟩
theorem MOk.szMake {m : List Sta} (h : MOk m) : SzM (makeM m) := by
 obtain ⟨h1, h2⟩ := makeM_sz h.v h.e
 exact ⟨by have := h.n; omega, fun s hs => by have := h2 s hs; omega⟩
theorem c_right {m : List Sta} (h : MOk m) : pc 21 [.v false [.sl (nM m) (mC m)]] (ret1 (.st (vB true))) := by
 refine ⟨enters Tryd.func21 (by kernel_rfl) (by kernel_rfl), ?_⟩
 have := pc_right m h.sz
 rwa [show validM m 9223372036854775807 = true from vm_iff.2 ⟨h.v.pos, h.v.out, fun i hi e he => by have := h.v.edge i hi e he; omega, h.v.rise⟩] at this
theorem c_Useful {m : List Sta} (h : MOk m) : pc 9 [.v false [.sl (nM m) (mC m)]] (ret1 (.own bT5 (nM m) (bC (useM m)))) :=
 ⟨enters Tryd.func9 (by kernel_rfl) (by kernel_rfl), pc_Useful m h.sz h.v (by have := h.n; omega) fun i hi => by have := h.e i hi; omega⟩
theorem c_classes {m : List Sta} (h : MOk m) : pc 22 [.v false [.sl (nM m) (mC m)], .v false [.sl (nM m) (bC (useM m))]] (ret1 (.own tI (nM m) (iC (clF m (useM m))))) := by
 refine ⟨enters Tryd.func22 (by kernel_rfl) (by kernel_rfl), ?_⟩
 have := pc_classes m (useM m) h.sz h.v h.n h.e h.o (useM_len m)
 rwa [show nB (useM m) = nM m by rw [nB_eq, useM_len, nM_eq]] at this
def mkC (cs : List C) : List C := mC (makeM (stsOf cs))
def mkN (cs : List C) : Nat := nM (makeM (stsOf cs))
def isC (cs : List C) : Bool := sameM (stsOf cs) (makeM (stsOf cs))
def lkC (cs ds : List C) : Bool := sameM (makeM (stsOf cs)) (makeM (stsOf ds))
def bookMi (x_sameC : List C → List C → Bool) (x_mkC : List C → List C) (x_mkN : List C → Nat) (x_isC : List C → Bool) (x_lkC : List C → List C → Bool) : Book := fun f xs => match f, xs with
 | 7, [.v false [.sl _ cs]] => some (ret1 (.tree shO (.sl (x_mkN cs) (x_mkC cs)) none), [])
 | 18, [.v false [.sl _ cs], .v false [.sl _ ds]] => some (ret1 (.st (vB (x_sameC cs ds))), [])
 | 8, [.v false [.sl _ cs]] => some (ret1 (.st (vB (x_isC cs))), [])
 | 17, [.v false [.sl _ cs], .v false [.sl _ ds]] => some (ret1 (.st (vB (x_lkC cs ds))), [])
 | _, _ => none
theorem mk_eq (m : List Sta) : mkC (mC m) = mC (makeM m) ∧ mkN (mC m) = nM (makeM m) := by
 unfold mkC mkN; rw [stsOf_mC]; exact ⟨rfl, rfl⟩
theorem c_Make {m : List Sta} (h : MOk m) : pc 7 [.v false [.sl (nM m) (mC m)]] (ret1 (.tree shO (.sl (mkN (mC m)) (mkC (mC m))) none)) := by
 rw [(mk_eq m).1, (mk_eq m).2]
 exact ⟨enters Tryd.func7 (by kernel_rfl) (by kernel_rfl), pc_Make m h.sz h.v h.n h.e (c_right h) (c_Useful h) (c_classes h)⟩
theorem c_SameP (a b : List Sta) (ha : SzM a) (hb : SzM b) : pc 18 [.v false [.sl (nM a) (mC a)], .v false [.sl (nM b) (mC b)]] (ret1 (.st (vB (sameC (mC a) (mC b))))) := by
 refine ⟨enters Tryd.func18 (by kernel_rfl) (by kernel_rfl), ?_⟩
 unfold sameC; rw [stsOf_mC, stsOf_mC]; exact pc_SameP a b ha hb
theorem c_Is {m : List Sta} (h : MOk m) : pc 8 [.v false [.sl (nM m) (mC m)]] (ret1 (.st (vB (isC (mC m))))) := by
 refine ⟨enters Tryd.func8 (by kernel_rfl) (by kernel_rfl), ?_⟩
 have n1 := nM_eq m
 have h0 := h.v.pos
 have c1 := c_Make h
 have c2 := c_SameP m (makeM m) h.sz h.szMake
 rw [← (mk_eq m).1, ← (mk_eq m).2] at c2
 have e1 : isC (mC m) = sameC (mC m) (mkC (mC m)) := by unfold isC sameC; rw [(mk_eq m).1, stsOf_mC, stsOf_mC]
 generalize isC (mC m) = R at *
 refine pc_of tok Tryd.func8 rfl (by rfl) ?_
 obtain ⟨j, hj⟩ : ∃ j : J, j = std Tryd.prog T := ⟨_, rfl⟩
 have hm : Tryd.prog.follows .mixedOrders = true := by kernel_rfl
 generalize y_sameC : @sameC = x_sameC at *
 generalize y_mkC : @mkC = x_mkC at *
 generalize y_mkN : @mkN = x_mkN at *
 generalize y_isC : @isC = x_isC at *
 generalize y_lkC : @lkC = x_lkC at *
 generalize y_mC : @mC = x_mC at *
 generalize y_nM : @nM = x_nM at *
 (repeat' first | ((first | with_reducible refine tr_cut (fun h => ?_) (fun h => ?_) | refine aw_condj (by cbv) (fun h => ?_) (fun h => ?_)) <;> (try simp (disch := omega) only [hj, std, cmpI, cmpB, satB, Bool.not_eq_true, Bool.not_eq_false, decide_eq_true_eq, decide_eq_false_iff_not, beq_iff_eq, bne_iff_ne, bne_eq_false_iff_eq, beq_eq_false_iff_ne, ne_eq, reduceCtorEq, not_true_eq_false, not_false_eq_true, pl0, if_true, cmpS_eq, cmpS_neq, Bool.not_eq_eq_eq_not, Bool.not_true, Bool.not_false, Bool.not_eq_true', Int.ofNat_eq_natCast, add64, sub64] at h) <;> (try (exfalso; omega))) | (with_reducible refine tr_alt (fun h => ?_) ?_ <;> (try (exfalso; omega))) | (with_reducible first | refine tr_ob ?_ ?_ | refine tr_done ?_) | (refine aw_tr hj tok (bookMi x_sameC x_mkC x_mkN x_isC x_lkC) (by cbv) ?_) | (refine aw_seq fun K hK => ?_) | (refine aw_tr1 hj tok (bookMi x_sameC x_mkC x_mkN x_isC x_lkC) (by cbv) ?_) | (refine aw_skip ?_) | (refine aw_block ?_) | (refine aw_exit ?_) | (refine aw_ret ⟨.inr rfl, ret_okj hj (by cbv) ?_ ?_⟩) | (refine aw_ret ?_) | (with_reducible first | refine th_n ?_ | refine th_r ?_ | refine th_x ?_ | refine blk_n ?_ | refine blk_r ?_ | refine blk_x ?_ | refine blk_y rfl ?_) | (refine ⟨.inr rfl, ret_okj hj (by cbv) ?_ ?_⟩) | (refine ⟨.inl rfl, ret_okj hj (by cbv) ?_ ?_⟩) | (with_reducible apply_assumption -symm -exfalso only [*]))
 all_goals ((try subst y_sameC); (try subst y_mkC); (try subst y_mkN); (try subst y_isC); (try subst y_lkC); (try subst y_mC); (try subst y_nM))
 all_goals (try (repeat' first | with_reducible exact obl0 | with_reducible refine obl1 ?_ ?_))
 all_goals (try first | with_reducible exact True.intro | ((first | refine ob_pc hj ?_ | refine ob_pcn hj ?_); (try rw [hj]); first | exact c1 | exact c2) | ((first | refine ob_le hj ?_ | refine ob_lei hj ?_ | refine ob_inb hj ?_ | refine ob_pos hj ?_ | refine ob_ne0 hj ?_ | refine ob_eqb hj ?_); (first | rfl | first | omega | (simp only [hj, std]; split <;> omega) | (simp (disch := omega) only [hj, std, cmpI, cmpB, satB, add64, sub64, ite0, pl0, pl2, pl3, sb0, if_true, if_false, eq_self, Int.ofNat_eq_natCast] <;> omega) | (simp (disch := omega) [hj, std, cmpI, cmpB, satB, add64, sub64, ite0, pl0, pl2, pl3, sb0, if_true, if_false, eq_self, Int.ofNat_eq_natCast] <;> omega))) | ((rw [e1]; exact rfl)))
theorem c_LikeP {a b : List Sta} (ha : MOk a) (hb : MOk b) : pc 17 [.v false [.sl (nM a) (mC a)], .v false [.sl (nM b) (mC b)]] (ret1 (.st (vB (lkC (mC a) (mC b))))) := by
 refine ⟨enters Tryd.func17 (by kernel_rfl) (by kernel_rfl), ?_⟩
 have c1 := c_Make ha
 have c2 := c_Make hb
 have c3 := c_SameP (makeM a) (makeM b) ha.szMake hb.szMake
 rw [← (mk_eq a).1, ← (mk_eq a).2, ← (mk_eq b).1, ← (mk_eq b).2] at c3
 have e1 : lkC (mC a) (mC b) = sameC (mkC (mC a)) (mkC (mC b)) := by unfold lkC sameC; rw [(mk_eq a).1, (mk_eq b).1, stsOf_mC, stsOf_mC, stsOf_mC, stsOf_mC]
 generalize lkC (mC a) (mC b) = R at *
 refine pc_of tok Tryd.func17 rfl (by rfl) ?_
 obtain ⟨j, hj⟩ : ∃ j : J, j = std Tryd.prog T := ⟨_, rfl⟩
 have hm : Tryd.prog.follows .mixedOrders = true := by kernel_rfl
 generalize y_sameC : @sameC = x_sameC at *
 generalize y_mkC : @mkC = x_mkC at *
 generalize y_mkN : @mkN = x_mkN at *
 generalize y_isC : @isC = x_isC at *
 generalize y_lkC : @lkC = x_lkC at *
 generalize y_mC : @mC = x_mC at *
 generalize y_nM : @nM = x_nM at *
 (repeat' first | ((first | with_reducible refine tr_cut (fun h => ?_) (fun h => ?_) | refine aw_condj (by cbv) (fun h => ?_) (fun h => ?_)) <;> (try simp (disch := omega) only [hj, std, cmpI, cmpB, satB, Bool.not_eq_true, Bool.not_eq_false, decide_eq_true_eq, decide_eq_false_iff_not, beq_iff_eq, bne_iff_ne, bne_eq_false_iff_eq, beq_eq_false_iff_ne, ne_eq, reduceCtorEq, not_true_eq_false, not_false_eq_true, pl0, if_true, cmpS_eq, cmpS_neq, Bool.not_eq_eq_eq_not, Bool.not_true, Bool.not_false, Bool.not_eq_true', add64, sub64] at h) <;> (try (exfalso; omega))) | (with_reducible refine tr_alt (fun h => ?_) ?_ <;> (try (exfalso; omega))) | (with_reducible first | refine tr_ob ?_ ?_ | refine tr_done ?_) | (refine aw_tr hj tok (bookMi x_sameC x_mkC x_mkN x_isC x_lkC) (by cbv) ?_) | (refine aw_seq fun K hK => ?_) | (refine aw_tr1 hj tok (bookMi x_sameC x_mkC x_mkN x_isC x_lkC) (by cbv) ?_) | (refine aw_skip ?_) | (refine aw_block ?_) | (refine aw_exit ?_) | (refine aw_ret ⟨.inr rfl, ret_okj hj (by cbv) ?_ ?_⟩) | (refine aw_ret ?_) | (with_reducible first | refine th_n ?_ | refine th_r ?_ | refine th_x ?_ | refine blk_n ?_ | refine blk_r ?_ | refine blk_x ?_ | refine blk_y rfl ?_) | (refine ⟨.inr rfl, ret_okj hj (by cbv) ?_ ?_⟩) | (refine ⟨.inl rfl, ret_okj hj (by cbv) ?_ ?_⟩) | (with_reducible apply_assumption -symm -exfalso only [*]))
 all_goals ((try subst y_sameC); (try subst y_mkC); (try subst y_mkN); (try subst y_isC); (try subst y_lkC); (try subst y_mC); (try subst y_nM))
 all_goals (try (repeat' first | with_reducible exact obl0 | with_reducible refine obl1 ?_ ?_))
 all_goals (try first | with_reducible exact True.intro | ((first | refine ob_pc hj ?_ | refine ob_pcn hj ?_); (try rw [hj]); first | exact c1 | exact c2 | exact c3) | ((first | refine ob_le hj ?_ | refine ob_lei hj ?_ | refine ob_inb hj ?_ | refine ob_pos hj ?_ | refine ob_ne0 hj ?_ | refine ob_eqb hj ?_); (first | rfl | first | omega | (simp only [hj, std]; split <;> omega) | (simp (disch := omega) only [hj, std, cmpI, cmpB, satB, add64, sub64, ite0, pl0, pl2, pl3, sb0, if_true, if_false, eq_self] <;> omega) | (simp (disch := omega) [hj, std, cmpI, cmpB, satB, add64, sub64, ite0, pl0, pl2, pl3, sb0, if_true, if_false, eq_self] <;> omega))) | ((rw [e1]; exact rfl)))
/-! ### the example -/
abbrev T0c : List C := [vI (-1), .sl 2 [vI 0, vI 1, vI 1, vI 2], vI (-1), .sl 1 [vI 1, vI 3], vI (-1), .sl 1 [vI 1, vI 4], vI 1, .nil, vI 1, .nil]
theorem ok_of {m : List Sta} (h : validM m 6 = true) (h1 : m.length ≤ 1000) (h2 : ∀ s ∈ m, s.2.length ≤ 1000 ∧ s.1 ≤ 9223372036854775807) : MOk m :=
 ⟨vm_iff.1 h, h1, fun k hk => by rw [mAt_get hk]; exact (h2 _ (List.getElem_mem hk)).1, fun k hk => by rw [mAt_get hk]; exact (h2 _ (List.getElem_mem hk)).2⟩
theorem ok_t0 : MOk t0 := ok_of (by decide +kernel) (by decide) (by decide)
theorem ok_m0 : MOk m0 := ok_of (by decide +kernel) (by decide) (by decide)
theorem le_t0 : LeC (.sl 5 T0c) (.sl (nM t0) (mC t0)) := by
 show LeC (.sl 5 T0c) (.sl 5 (mC t0))
 refine LeCs.le ?_ 5
 refine .cons .refl (.cons .refl (.cons .refl (.cons .refl (.cons .refl (.cons .refl (.cons .refl (.cons .nil (.cons .refl (.cons .nil ?_)))))))))
 exact LeCs.refl []
def bookMAw (MC : List C) : Book := fun f xs => match f, xs with
 | 7, [.v false [.sl _ _]] => some (ret1 (.tree shO (.sl 3 MC) none), [])
 | 8, [.v false [.sl n _]] => some (ret1 (.st (vB (Nat.beq n 3))), [])
 | 17, [.v false [.sl _ _], .v false [.sl _ _]] => some (ret1 (.st (vB true)), [])
 | _, _ => none
theorem pc_awake : PC Tryd.prog T 10 [] (ret1 (.st (vB true))) [] := by
 have l1 : LeAs [.v false [.sl 5 T0c]] [.v false [.sl (nM t0) (mC t0)]] := .cons (.v (.cons le_t0 (LeCs.refl []))) .nil
 have c1 := c_Make ok_t0
 rw [(mk_eq t0).1, (mk_eq t0).2, make_t0] at c1
 have k1 : pc 7 [.v false [.sl 5 T0c]] (ret1 (.tree shO (.sl 3 (mC m0)) none)) := ⟨c1.1, pc_le c1.2 l1⟩
 have c2 := c_Is ok_m0
 rw [show isC (mC m0) = true by unfold isC; rw [stsOf_mC, make_m0]; exact decide_eq_true rfl] at c2
 have k2 : pc 8 [.v false [.sl 3 (mC m0)]] (ret1 (.st (vB true))) := c2
 have c3 := c_Is ok_t0
 rw [show isC (mC t0) = false by unfold isC; rw [stsOf_mC, make_t0]; exact decide_eq_false (by decide)] at c3
 have k3 : pc 8 [.v false [.sl 5 T0c]] (ret1 (.st (vB false))) := ⟨c3.1, pc_le c3.2 l1⟩
 have c4 := c_LikeP ok_m0 ok_t0
 rw [show lkC (mC m0) (mC t0) = true by unfold lkC; rw [stsOf_mC, stsOf_mC, make_t0, make_m0]; exact decide_eq_true rfl] at c4
 have k4 : pc 17 [.v false [.sl 3 (mC m0)], .v false [.sl 5 T0c]] (ret1 (.st (vB true))) := ⟨c4.1, pc_le c4.2 (.cons .refl l1)⟩
 have q0 : cellAt (mC m0) 1 = .sl 2 [vI 0, vI 1, vI 1, vI 1] := rfl
 have q1 : cellAt (mC m0) 4 = vI 1 := rfl
 have ln : (mC m0).length = 6 := rfl
 clear l1 c1 c2 c3 c4
 generalize mC m0 = MC at *
 have tn1 : Int.toNat 1 = 1 := rfl
 have tn2 : Int.toNat 2 = 2 := rfl
 have q2 : cellAt [vI 0, vI 1, vI 1, vI 1] (1 * 2 + 1) = vI 1 := rfl
 have q3 : cellAt [vI 0, vI 1, vI 1, vI 1] 3 = vI 1 := rfl
 have giv : gi (vI 1) = 1 := rfl
 have q0' : cellAt MC (0 * 2 + 1) = .sl 2 [vI 0, vI 1, vI 1, vI 1] := q0
 have q1' : cellAt MC (2 * 2) = vI 1 := q1
 refine pc_of tok Tryd.func10 rfl (by rfl) ?_
 obtain ⟨j, hj⟩ : ∃ j : J, j = std Tryd.prog T := ⟨_, rfl⟩
 have hm : Tryd.prog.follows .mixedOrders = true := by kernel_rfl
 generalize y_mC : @mC = x_mC at *
 generalize y_nM : @nM = x_nM at *
 generalize y_isC : @isC = x_isC at *
 generalize y_lkC : @lkC = x_lkC at *
 (repeat' first | ((first | with_reducible refine tr_cut (fun h => ?_) (fun h => ?_) | refine aw_condj (by cbv) (fun h => ?_) (fun h => ?_)) <;> (try simp (disch := omega) only [hj, std, cmpI, cmpB, satB, Bool.not_eq_true, Bool.not_eq_false, decide_eq_true_eq, decide_eq_false_iff_not, beq_iff_eq, bne_iff_ne, bne_eq_false_iff_eq, beq_eq_false_iff_ne, ne_eq, reduceCtorEq, not_true_eq_false, not_false_eq_true, pl0, if_true, cmpS_eq, cmpS_neq, Bool.not_eq_eq_eq_not, Bool.not_true, Bool.not_false, Bool.not_eq_true', q0, q1, q0', q1', ite0, Int.ofNat_eq_natCast, Int.toNat_zero, tn1, tn2, if_true, if_false, q2, q3, giv, add64, sub64] at h) <;> (try (exfalso; omega))) | (with_reducible refine tr_alt (fun h => ?_) ?_ <;> (try (exfalso; omega))) | (with_reducible first | refine tr_ob ?_ ?_ | refine tr_done ?_) | (refine aw_tr hj tok (bookMAw MC) (by cbv) ?_) | (refine aw_seq fun K hK => ?_) | (refine aw_tr1 hj tok (bookMAw MC) (by cbv) ?_) | (refine aw_skip ?_) | (refine aw_block ?_) | (refine aw_exit ?_) | (refine aw_ret ⟨.inr rfl, ret_okj hj (by cbv) ?_ ?_⟩) | (refine aw_ret ?_) | (with_reducible first | refine th_n ?_ | refine th_r ?_ | refine th_x ?_ | refine blk_n ?_ | refine blk_r ?_ | refine blk_x ?_ | refine blk_y rfl ?_) | (refine ⟨.inr rfl, ret_okj hj (by cbv) ?_ ?_⟩) | (refine ⟨.inl rfl, ret_okj hj (by cbv) ?_ ?_⟩) | (with_reducible apply_assumption -symm -exfalso only [*]))
 all_goals ((try subst y_mC); (try subst y_nM); (try subst y_isC); (try subst y_lkC))
 all_goals (try (repeat' first | with_reducible exact obl0 | with_reducible refine obl1 ?_ ?_))
 all_goals (try first | with_reducible exact True.intro | ((first | refine ob_pc hj ?_ | refine ob_pcn hj ?_); (try rw [hj]); first | exact k1 | exact k2 | exact k3 | exact k4) | ((first | refine ob_le hj ?_ | refine ob_lei hj ?_ | refine ob_inb hj ?_ | refine ob_pos hj ?_ | refine ob_ne0 hj ?_ | refine ob_eqb hj ?_); (first | rfl | first | omega | (simp only [hj, std]; split <;> omega) | (simp (disch := omega) only [hj, std, cmpI, cmpB, satB, add64, sub64, ite0, pl0, pl2, pl3, sb0, if_true, if_false, eq_self, ln, q0, q1, q0', q1', Int.toNat_zero, tn1, tn2] <;> omega) | (simp (disch := omega) [hj, std, cmpI, cmpB, satB, add64, sub64, ite0, pl0, pl2, pl3, sb0, if_true, if_false, eq_self, ln, q0, q1, q0', q1', Int.toNat_zero, tn1, tn2] <;> omega))) | ((refine ob_ok hj ?_; simp only [hj, std, ite0, Int.toNat_zero, tn1, tn2, if_true, if_false, q0, q1, q0', q1']; first | exact .inr ⟨_, _, rfl⟩ | exact ⟨_, rfl⟩ | exact .inr ⟨_, _, q0⟩ | exact ⟨_, q1⟩)) | (exact rfl))
end Go.Proofs.YtcpcghnpoekhpaaDoor.A
/- Machines: fits, at whatever size memory bears. -/
set_option linter.unusedSimpArgs false
set_option linter.unusedVariables false
set_option maxRecDepth 100000
set_option maxHeartbeats 4000000
namespace Go.Proofs.YtcpcghnpoekhpaaDoor.A
open Go
theorem pc_FewB (m : List Sta) (hs : m.length ≤ 4398046510976) : PC Tryd.prog T 27 [.v false [.sl (nM m) (mC m)]] (ret1 (.st (vI (if fewM m = true then 1 else 0)))) [] := by
 have hn := nM_eq m
 have hc := mC_len m
 have ha := mC_at m
 have hms := hs
 have hat := @mAt_get m
 have hne : ∀ l : List Eg, nE l = l.length := nE_eq
 have hno : ∀ k, k < m.length → ¬ (mAt m k).2.length ≤ 6 → fewM m = false := fun k hk h => decide_eq_false fun hh => h (by rw [hat hk]; exact hh.2 _ (List.getElem_mem hk))
 have hyes : m.length ≤ 12 → (∀ k, k < m.length → (mAt m k).2.length ≤ 6) → fewM m = true := fun h1 h => decide_eq_true ⟨h1, fun s hs => by
  obtain ⟨i, hi, rfl⟩ := List.mem_iff_getElem.1 hs
  rw [← hat hi]; exact h i hi⟩
 have hbig : ¬ m.length ≤ 12 → fewM m = false := fun h => decide_eq_false fun hh => h hh.1
 generalize fewM m = R at *
 refine pc_of tok Tryd.func27 rfl (by rfl) ?_
 obtain ⟨j, hj⟩ : ∃ j : J, j = std Tryd.prog T := ⟨_, rfl⟩
 have hm : Tryd.prog.follows .mixedOrders = true := by kernel_rfl
 generalize y_nE : @nE = x_nE at *
 generalize y_mC : @mC = x_mC at *
 generalize y_nM : @nM = x_nM at *
 (repeat' first | ((first | with_reducible refine tr_cut (fun h => ?_) (fun h => ?_) | refine aw_condj (by cbv) (fun h => ?_) (fun h => ?_)) <;> (try simp (disch := omega) only [hj, std, cmpI, cmpB, satB, Bool.not_eq_true, Bool.not_eq_false, decide_eq_true_eq, decide_eq_false_iff_not, beq_iff_eq, bne_iff_ne, bne_eq_false_iff_eq, beq_eq_false_iff_ne, ne_eq, reduceCtorEq, not_true_eq_false, not_false_eq_true, pl0, if_true, cmpS_eq, cmpS_neq, Bool.not_eq_eq_eq_not, Bool.not_true, Bool.not_false, Bool.not_eq_true', add64, sub64] at h) <;> (try (exfalso; omega))) | (with_reducible refine tr_alt (fun h => ?_) ?_ <;> (try (exfalso; omega))) | (with_reducible first | refine tr_ob ?_ ?_ | refine tr_done ?_) | (refine aw_tr hj tok book0 (by cbv) ?_) | (refine aw_seq fun K hK => ?_) | (refine aw_tr1 hj tok book0 (by cbv) ?_) | (refine aw_skip ?_) | (refine aw_block ?_) | (refine aw_exit ?_) | (refine aw_ret ⟨.inr rfl, ret_okj hj (by cbv) ?_ ?_⟩) | (refine aw_ret ?_) | (with_reducible first | refine th_n ?_ | refine th_r ?_ | refine th_x ?_ | refine blk_n ?_ | refine blk_r ?_ | refine blk_x ?_ | refine blk_y rfl ?_) | (refine ⟨.inr rfl, ret_okj hj (by cbv) ?_ ?_⟩) | (refine ⟨.inl rfl, ret_okj hj (by cbv) ?_ ?_⟩) | (with_reducible refine ⟨_, by cbv, ?_, ?_⟩) | (with_reducible apply_assumption -symm -exfalso only [*]))
 all_goals ((try subst y_nE); (try subst y_mC); (try subst y_nM))
 all_goals (try (repeat' first | with_reducible exact obl0 | (with_reducible refine obl1 ?_ ?_)))
 all_goals (try first | with_reducible exact True.intro | ((first | refine ob_le hj ?_ | refine ob_lei hj ?_ | refine ob_inb hj ?_ | refine ob_pos hj ?_ | refine ob_ne0 hj ?_ | refine ob_eqb hj ?_); (first | rfl | first | omega | (simp only [hj, std]; split <;> omega) | (simp (disch := omega) only [hj, std, cmpI, cmpB, satB, add64, sub64, ite0, pl0, pl2, pl3, sb0, if_true, if_false, eq_self] <;> omega) | (simp (disch := omega) [hj, std, cmpI, cmpB, satB, add64, sub64, ite0, pl0, pl2, pl3, sb0, if_true, if_false, eq_self] <;> omega))) | ((rw [hbig (by omega)]; exact rfl)))
 refine aw_lpj hj [(0, .keep), (3, .keep)] [] (fun (k : Int) => stOf 20 [(0, .one (.c (.sl (nM m) (mC m)))), (3, .one (.c (vI k)))] []) (fun (k : Int) => nM m - k.toNat) (fun (k : Int) => 0 ≤ k ∧ k ≤ nM m ∧ nM m ≤ 12 ∧ ∀ i, i < k.toNat → (mAt m i).2.length ≤ 6) (0) (by generalize @nE = x_nE; generalize @mC = x_mC; generalize @nM = x_nM; cbv) ?_ (fun k hI => ?_)
 ·exact ⟨by omega, by omega, by omega, fun i h => absurd h (by simp)⟩
 obtain ⟨i1, i2, i3, hI⟩ := hI
 rcases Decidable.em (k < (nM m : Int)) with hk | hk
 ·obtain ⟨c0, c1⟩ := ha k.toNat (by omega)
  have hno := hno k.toNat (by omega)
  have f1 : (k + 1).toNat = k.toNat + 1 := by omega
  have g1 : gn (cellAt (mC m) (k.toNat * 2 + 1)) = nE (mAt m k.toNat).2 := by rw [c1]; rfl
  have hst : (mAt m k.toNat).2.length ≤ 6 → ∀ i, i < k.toNat + 1 → (mAt m i).2.length ≤ 6 := fun h i hi => by
   by_cases e : i = k.toNat
   ·subst e; exact h
   ·exact hI i (by omega)
  have hne := hne (mAt m k.toNat).2
  generalize nE (mAt m k.toNat).2 = z at *
  clear ha hI hyes hat hbig
  generalize y_nE : @nE = x_nE at *
  generalize y_mC : @mC = x_mC at *
  generalize y_nM : @nM = x_nM at *
  (repeat' first | ((first | with_reducible refine tr_cut (fun h => ?_) (fun h => ?_) | refine aw_condj (by cbv) (fun h => ?_) (fun h => ?_)) <;> (try simp (disch := omega) only [hj, std, cmpI, cmpB, satB, Bool.not_eq_true, Bool.not_eq_false, decide_eq_true_eq, decide_eq_false_iff_not, beq_iff_eq, bne_iff_ne, bne_eq_false_iff_eq, beq_eq_false_iff_ne, ne_eq, reduceCtorEq, not_true_eq_false, not_false_eq_true, pl0, if_true, cmpS_eq, cmpS_neq, Bool.not_eq_eq_eq_not, Bool.not_true, Bool.not_false, Bool.not_eq_true', g1, ite0, add64, sub64] at h) <;> (try (exfalso; omega))) | (with_reducible refine tr_alt (fun h => ?_) ?_ <;> (try (exfalso; omega))) | (with_reducible first | refine tr_ob ?_ ?_ | refine tr_done ?_) | (refine aw_tr hj tok book0 (by cbv) ?_) | (refine aw_seq fun K hK => ?_) | (refine aw_tr1 hj tok book0 (by cbv) ?_) | (refine aw_skip ?_) | (refine aw_block ?_) | (refine aw_exit ?_) | (refine aw_ret ⟨.inr rfl, ret_okj hj (by cbv) ?_ ?_⟩) | (refine aw_ret ?_) | (with_reducible first | refine th_n ?_ | refine th_r ?_ | refine th_x ?_ | refine blk_n ?_ | refine blk_r ?_ | refine blk_x ?_ | refine blk_y rfl ?_) | (refine ⟨.inr rfl, ret_okj hj (by cbv) ?_ ?_⟩) | (refine ⟨.inl rfl, ret_okj hj (by cbv) ?_ ?_⟩) | (with_reducible refine ⟨_, by cbv, ?_, ?_⟩) | (with_reducible apply_assumption -symm -exfalso only [*]))
  all_goals ((try subst y_nE); (try subst y_mC); (try subst y_nM))
  all_goals (try (repeat' first | with_reducible exact obl0 | (with_reducible refine obl1 ?_ ?_)))
  all_goals (try first | with_reducible exact True.intro | ((first | refine ob_le hj ?_ | refine ob_lei hj ?_ | refine ob_inb hj ?_ | refine ob_pos hj ?_ | refine ob_ne0 hj ?_ | refine ob_eqb hj ?_); (first | rfl | first | omega | (simp only [hj, std]; split <;> omega) | (simp (disch := omega) only [hj, std, cmpI, cmpB, satB, add64, sub64, ite0, pl0, pl2, pl3, sb0, if_true, if_false, eq_self, hc, g1] <;> omega) | (simp (disch := omega) [hj, std, cmpI, cmpB, satB, add64, sub64, ite0, pl0, pl2, pl3, sb0, if_true, if_false, eq_self, hc, g1] <;> omega))) | ((refine ob_ok hj ?_; simp only [hj, std, ite0]; exact .inr ⟨_, _, c1⟩)) | ((rw [hno (by omega)]; exact rfl)) | ((simp (disch := omega) only [hj, std, add64, ite0, f1]; first | omega | exact ⟨by omega, by omega, by omega, hst (by omega)⟩)))
 ·have e : k.toNat = m.length := by omega
  rw [e] at hI
  generalize y_nE : @nE = x_nE at *
  generalize y_mC : @mC = x_mC at *
  generalize y_nM : @nM = x_nM at *
  (repeat' first | ((first | with_reducible refine tr_cut (fun h => ?_) (fun h => ?_) | refine aw_condj (by cbv) (fun h => ?_) (fun h => ?_)) <;> (try simp (disch := omega) only [hj, std, cmpI, cmpB, satB, Bool.not_eq_true, Bool.not_eq_false, decide_eq_true_eq, decide_eq_false_iff_not, beq_iff_eq, bne_iff_ne, bne_eq_false_iff_eq, beq_eq_false_iff_ne, ne_eq, reduceCtorEq, not_true_eq_false, not_false_eq_true, pl0, if_true, cmpS_eq, cmpS_neq, Bool.not_eq_eq_eq_not, Bool.not_true, Bool.not_false, Bool.not_eq_true', add64, sub64] at h) <;> (try (exfalso; omega))) | (with_reducible refine tr_alt (fun h => ?_) ?_ <;> (try (exfalso; omega))) | (with_reducible first | refine tr_ob ?_ ?_ | refine tr_done ?_) | (refine aw_tr hj tok book0 (by cbv) ?_) | (refine aw_seq fun K hK => ?_) | (refine aw_tr1 hj tok book0 (by cbv) ?_) | (refine aw_skip ?_) | (refine aw_block ?_) | (refine aw_exit ?_) | (refine aw_ret ⟨.inr rfl, ret_okj hj (by cbv) ?_ ?_⟩) | (refine aw_ret ?_) | (with_reducible first | refine th_n ?_ | refine th_r ?_ | refine th_x ?_ | refine blk_n ?_ | refine blk_r ?_ | refine blk_x ?_ | refine blk_y rfl ?_) | (refine ⟨.inr rfl, ret_okj hj (by cbv) ?_ ?_⟩) | (refine ⟨.inl rfl, ret_okj hj (by cbv) ?_ ?_⟩) | (with_reducible refine ⟨_, by cbv, ?_, ?_⟩) | (with_reducible apply_assumption -symm -exfalso only [*]))
  all_goals ((try subst y_nE); (try subst y_mC); (try subst y_nM))
  all_goals (try (repeat' first | with_reducible exact obl0 | with_reducible refine obl1 ?_ ?_))
  all_goals (try first | with_reducible exact True.intro | ((first | refine ob_le hj ?_ | refine ob_lei hj ?_ | refine ob_inb hj ?_ | refine ob_pos hj ?_ | refine ob_ne0 hj ?_ | refine ob_eqb hj ?_); (first | rfl | first | omega | (simp only [hj, std]; split <;> omega) | (simp (disch := omega) only [hj, std, cmpI, cmpB, satB, add64, sub64, ite0, pl0, pl2, pl3, sb0, if_true, if_false, eq_self] <;> omega) | (simp (disch := omega) [hj, std, cmpI, cmpB, satB, add64, sub64, ite0, pl0, pl2, pl3, sb0, if_true, if_false, eq_self] <;> omega))) | ((rw [hyes (by omega) hI]; exact rfl)))
theorem few_sz {m : List Sta} (h : fewM m = true) : SzM m := by
 obtain ⟨h1, h2⟩ := of_decide_eq_true h
 exact ⟨by omega, fun s hs => by have := h2 s hs; omega⟩
theorem pc_fitsB (m : List Sta) (hs : m.length ≤ 4398046510976) : PC Tryd.prog T 11 [.v false [.sl (nM m) (mC m)]] (ret1 (.st (vB (fitsM m)))) [] := by
  have c1 : pc 27 [.v false [.sl (nM m) (mC m)]] (ret1 (.st (vI (fewC (mC m))))) := by
    refine ⟨enters Tryd.func27 (by kernel_rfl) (by kernel_rfl), ?_⟩
    unfold fewC; rw [stsOf_mC]; exact pc_FewB m hs
  have e1 : fewC (mC m) = if fewM m = true then 1 else 0 := by unfold fewC; rw [stsOf_mC]
  have e2 : valC (mC m) 6 = validM m 6 := by unfold valC; rw [stsOf_mC]
  have c2 : fewC (mC m) = 1 → pc 12 [.v false [.sl (nM m) (mC m)], .v false [vI 6]] (ret1 (.st (vB (valC (mC m) 6)))) := fun h => c_Valid24 m 6 (few_sz (by
    cases hf : fewM m with
    | true => rfl
    | false => rw [e1, hf] at h; exact absurd h (by decide)))
  have e3 : fewC (mC m) = 1 → fitsM m = valC (mC m) 6 := fun h => by
    unfold fitsM
    rw [e2]
    cases hf : fewM m with
    | true => rfl
    | false => rw [e1, hf] at h; exact absurd h (by decide)
  have e4 : ¬ fewC (mC m) = 1 → fitsM m = false := fun h => by
    unfold fitsM
    cases hf : fewM m with
    | true => rw [e1, hf] at h; exact absurd rfl h
    | false => rfl
  generalize fitsM m = R at *
  clear e1 e2
  refine pc_of tok Tryd.func11 rfl (by rfl) ?_
  obtain ⟨j, hj⟩ : ∃ j : J, j = std Tryd.prog T := ⟨_, rfl⟩
  have hm : Tryd.prog.follows .mixedOrders = true := by kernel_rfl
  generalize y_fewC : @fewC = x_fewC at *
  generalize y_valC : @valC = x_valC at *
  generalize y_outC : @outC = x_outC at *
  generalize y_goC : @goC = x_goC at *
  generalize y_mC : @mC = x_mC at *
  generalize y_nM : @nM = x_nM at *
  (repeat' first | ((first | with_reducible refine tr_cut (fun h => ?_) (fun h => ?_) | refine aw_condj (by cbv) (fun h => ?_) (fun h => ?_)) <;> (try simp (disch := omega) only [hj, std, cmpI, cmpB, satB, Bool.not_eq_true, Bool.not_eq_false, decide_eq_true_eq, decide_eq_false_iff_not, beq_iff_eq, bne_iff_ne, bne_eq_false_iff_eq, beq_eq_false_iff_ne, ne_eq, reduceCtorEq, not_true_eq_false, not_false_eq_true, pl0, if_true, cmpS_eq, cmpS_neq, Bool.not_eq_eq_eq_not, Bool.not_true, Bool.not_false, Bool.not_eq_true', add64, sub64] at h) <;> (try (exfalso; omega))) | (with_reducible refine tr_alt (fun h => ?_) ?_ <;> (try (exfalso; omega))) | (with_reducible first | refine tr_ob ?_ ?_ | refine tr_done ?_) | (refine aw_tr hj tok (bookM2 x_fewC x_valC x_outC x_goC) (by cbv) ?_) | (refine aw_seq fun K hK => ?_) | (refine aw_tr1 hj tok (bookM2 x_fewC x_valC x_outC x_goC) (by cbv) ?_) | (refine aw_skip ?_) | (refine aw_block ?_) | (refine aw_exit ?_) | (refine aw_ret ⟨.inr rfl, ret_okj hj (by cbv) ?_ ?_⟩) | (refine aw_ret ?_) | (with_reducible first | refine th_n ?_ | refine th_r ?_ | refine th_x ?_ | refine blk_n ?_ | refine blk_r ?_ | refine blk_x ?_ | refine blk_y rfl ?_) | (refine ⟨.inr rfl, ret_okj hj (by cbv) ?_ ?_⟩) | (refine ⟨.inl rfl, ret_okj hj (by cbv) ?_ ?_⟩) | (with_reducible apply_assumption -symm -exfalso only [*]))
  all_goals ((try subst y_fewC); (try subst y_valC); (try subst y_outC); (try subst y_goC); (try subst y_mC); (try subst y_nM))
  all_goals (try (repeat' first | with_reducible exact obl0 | with_reducible refine obl1 ?_ ?_))
  all_goals (try first | with_reducible exact True.intro | ((first | refine ob_pc hj ?_ | refine ob_pcn hj ?_); (try rw [hj]); first | exact c1 | exact c2 (by assumption)) | ((first | refine ob_le hj ?_ | refine ob_lei hj ?_ | refine ob_inb hj ?_ | refine ob_pos hj ?_ | refine ob_ne0 hj ?_ | refine ob_eqb hj ?_); (first | rfl | first | omega | (simp only [hj, std]; split <;> omega) | (simp (disch := omega) only [hj, std, cmpI, cmpB, satB, add64, sub64, ite0, pl0, pl2, pl3, sb0, if_true, if_false, eq_self] <;> omega) | (simp (disch := omega) [hj, std, cmpI, cmpB, satB, add64, sub64, ite0, pl0, pl2, pl3, sb0, if_true, if_false, eq_self] <;> omega))) | ((rw [e3 (by assumption)]; exact rfl)) | ((rw [e4 (by assumption)]; exact rfl)))
end Go.Proofs.YtcpcghnpoekhpaaDoor.A
/- Machines, the reference: Like, Least, Ordered. -/
set_option linter.unusedSimpArgs false
set_option linter.unusedVariables false
set_option maxRecDepth 100000
set_option maxHeartbeats 4000000
namespace Go.Proofs.YtcpcghnpoekhpaaDoor.A
open Go
abbrev sh9 : Sh := .sl 25 [.sl 4 [.st]]
abbrev b9 : TypeId := 4
def apC (cs ds : List C) (n : Int) : List C := mtC (apF (stsOf cs) (stsOf ds) n.toNat)
def nApC (cs ds : List C) (n : Int) : Nat := nMt (apF (stsOf cs) (stsOf ds) n.toNat)
def rchC (cs : List C) : List C := bC (reachM (stsOf cs))
set_option linter.unusedVariables false
theorem rchC_eq (m : List Sta) : rchC (mC m) = bC (reachM m) := by unfold rchC; rw [stsOf_mC]
/-! ### Ordered -/
end Go.Proofs.YtcpcghnpoekhpaaDoor.A
/- MiniUseful: the law's walk. -/
set_option linter.unusedSimpArgs false
set_option linter.unusedVariables false
set_option maxRecDepth 100000
set_option maxHeartbeats 4000000
namespace Go.Proofs.YtcpcghnpoekhpaaDoor.A
open Go
set_option linter.unusedVariables false
def fitC (cs : List C) : Bool := fitsM (stsOf cs)
def bookMU (x_apC : List C → List C → Int → List C) (x_nApC : List C → List C → Int → Nat) (x_rchC : List C → List C) (x_useC : List C → List C) (x_fitC : List C → Bool) : Book := fun f xs => match f, xs with
 | 11, [.v false [.sl _ cs]] => some (ret1 (.st (vB (x_fitC cs))), [])
 | 10, [] => some (ret1 (.st (vB true)), [])
 | 9, [.v false [.sl n cs]] => some (ret1 (.own b9 n (x_useC cs)), [])
 | 19, [.v false [.sl n cs]] => some (ret1 (.own b9 n (x_rchC cs)), [])
 | 20, [.v false [.sl _ cs], .v false [.sl _ ds], .v false [.val (.int _ n)]] => some (ret1 (.tree sh9 (.sl (x_nApC cs ds n) (x_apC cs ds n)) none), [])
 | _, _ => none
theorem mok_of {m : List Sta} (h : fitsM m = true) (hO : ∀ s ∈ m, s.1 ≤ 9223372036854775807) : MOk m := by
 unfold fitsM at h
 rw [Bool.and_eq_true] at h
 obtain ⟨h1, h2⟩ := of_decide_eq_true h.1
 exact ⟨vm_iff.1 h.2, by omega, fun k hk => by have := h2 _ (List.getElem_mem hk); rw [mAt_get hk]; omega, fun k hk => by rw [mAt_get hk]; exact hO _ (List.getElem_mem hk)⟩
theorem c_fits {m : List Sta} (h : m.length ≤ 4398046510976) : pc 11 [.v false [.sl (nM m) (mC m)]] (ret1 (.st (vB (fitC (mC m))))) := by
 refine ⟨enters Tryd.func11 (by kernel_rfl) (by kernel_rfl), ?_⟩
 unfold fitC; rw [stsOf_mC]; exact pc_fitsB m h
theorem c_awake25 : pc 10 [] (ret1 (.st (vB true))) := ⟨enters Tryd.func10 (by kernel_rfl) (by kernel_rfl), pc_awake⟩
theorem c_Reach {m : List Sta} (h : MOk m) : pc 19 [.v false [.sl (nM m) (mC m)]] (ret1 (.own b9 (nM m) (rchC (mC m)))) := by
 refine ⟨enters Tryd.func19 (by kernel_rfl) (by kernel_rfl), ?_⟩
 rw [rchC_eq]; exact pc_Reached m h.sz h.v.pos
abbrev CApart (a b : List Sta) (n : Int) : Prop := pc 20 [.v false [.sl (nM a) (mC a)], .v false [.sl (nM b) (mC b)], .v false [vI n]] (ret1 (.tree sh9 (.sl (nApC (mC a) (mC b) n) (apC (mC a) (mC b) n)) none))
theorem pc_MiniUseful (m : List Sta) (hs0 : m.length ≤ 4398046510976) (hO : ∀ s ∈ m, s.1 ≤ 9223372036854775807) (cA : MOk m → CApart m m 6) : PC Tryd.prog T 6 [.v false [.sl (nM m) (mC m)]] (ret1 (.st (vB true))) [] := by
 have cF := c_fits hs0
 have ef : fitC (mC m) = fitsM m := by unfold fitC; rw [stsOf_mC]
 have cW := c_awake25
 have n1 := nM_eq m
 refine pc_of tok Tryd.func6 rfl (by rfl) ?_
 obtain ⟨j, hj⟩ : ∃ j : J, j = std Tryd.prog T := ⟨_, rfl⟩
 have hm : Tryd.prog.follows .mixedOrders = true := by kernel_rfl
 rcases Bool.eq_false_or_eq_true (fitsM m) with hf | hf
 all_goals rw [hf] at ef
 rotate_left
 ·generalize y_apC : @apC = x_apC at *
  generalize y_nApC : @nApC = x_nApC at *
  generalize y_rchC : @rchC = x_rchC at *
  generalize y_useC : @useC = x_useC at *
  generalize y_fitC : @fitC = x_fitC at *
  generalize y_bC : @bC = x_bC at *
  generalize y_mC : @mC = x_mC at *
  generalize y_nM : @nM = x_nM at *
  generalize y_mtC : @mtC = x_mtC at *
  generalize y_nMt : @nMt = x_nMt at *
  (repeat' first | ((first | with_reducible refine tr_cut (fun h => ?_) (fun h => ?_) | refine aw_condj (by cbv) (fun h => ?_) (fun h => ?_)) <;> (try simp (disch := omega) only [hj, std, cmpI, cmpB, satB, Bool.not_eq_true, Bool.not_eq_false, decide_eq_true_eq, decide_eq_false_iff_not, beq_iff_eq, bne_iff_ne, bne_eq_false_iff_eq, beq_eq_false_iff_ne, ne_eq, reduceCtorEq, not_true_eq_false, not_false_eq_true, pl0, if_true, cmpS_eq, cmpS_neq, Bool.not_eq_eq_eq_not, Bool.not_true, Bool.not_false, Bool.not_eq_true', ef, add64, sub64] at h) <;> (try (exfalso; omega))) | (with_reducible refine tr_alt (fun h => ?_) ?_ <;> (try (exfalso; omega))) | (with_reducible first | refine tr_ob ?_ ?_ | refine tr_done ?_) | (refine aw_tr hj tok (bookMU x_apC x_nApC x_rchC x_useC x_fitC) (by cbv) ?_) | (refine aw_seq fun K hK => ?_) | (refine aw_tr1 hj tok (bookMU x_apC x_nApC x_rchC x_useC x_fitC) (by cbv) ?_) | (refine aw_skip ?_) | (refine aw_block ?_) | (refine aw_exit ?_) | (refine aw_ret ⟨.inr rfl, ret_okj hj (by cbv) ?_ ?_⟩) | (refine aw_ret ?_) | (with_reducible first | refine th_n ?_ | refine th_r ?_ | refine th_x ?_ | refine blk_n ?_ | refine blk_r ?_ | refine blk_x ?_ | refine blk_y rfl ?_) | (refine ⟨.inr rfl, ret_okj hj (by cbv) ?_ ?_⟩) | (refine ⟨.inl rfl, ret_okj hj (by cbv) ?_ ?_⟩) | (with_reducible refine ⟨_, by cbv, ?_, ?_⟩) | (with_reducible apply_assumption -symm -exfalso only [*]))
  all_goals ((try subst y_apC); (try subst y_nApC); (try subst y_rchC); (try subst y_useC); (try subst y_fitC); (try subst y_bC); (try subst y_mC); (try subst y_nM); (try subst y_mtC); (try subst y_nMt))
  all_goals (try (repeat' first | with_reducible exact obl0 | (with_reducible refine obl1 ?_ ?_)))
  all_goals (try first | with_reducible exact True.intro | ((first | refine ob_pc hj ?_ | refine ob_pcn hj ?_); (try rw [hj]); first | exact cF | exact cW) | ((first | refine ob_le hj ?_ | refine ob_lei hj ?_ | refine ob_inb hj ?_ | refine ob_pos hj ?_ | refine ob_ne0 hj ?_ | refine ob_eqb hj ?_); (first | rfl | first | omega | (simp only [hj, std]; split <;> omega) | (simp (disch := omega) only [hj, std, cmpI, cmpB, satB, add64, sub64, ite0, pl0, pl2, pl3, sb0, if_true, if_false, eq_self] <;> omega) | (simp (disch := omega) [hj, std, cmpI, cmpB, satB, add64, sub64, ite0, pl0, pl2, pl3, sb0, if_true, if_false, eq_self] <;> omega))) | (exact rfl))
 have hk := mok_of hf hO
 have cA := cA hk
 have cU := c_Useful hk
 have eu : useC (mC m) = bC (useM m) := by unfold useC; rw [stsOf_mC]
 rw [← eu] at cU
 have cR := c_Reach hk
 have e1 : apC (mC m) (mC m) 6 = mtC (apF m m 6) := by unfold apC; rw [stsOf_mC]; rfl
 have e2 : nApC (mC m) (mC m) 6 = nMt (apF m m 6) := by unfold nApC; rw [stsOf_mC]; rfl
 have e3 := rchC_eq m
 have hr := apF_rect m m 6
 have hrl := reach_len m
 have hul := useM_len m
 have hmn := hk.n
 have hat := @useM_at m
 generalize apF m m 6 = X at *
 generalize reachM m = r at *
 generalize useM m = U at *
 have hXl := hr.1
 have nv := nMt_eq X
 have lv := mtC_len X
 have hci := fun i (hi : i < m.length) => mtC_cell (l := X) (k := i) (by omega)
 have hw3 := fun i k => (gb_bC (rwAt X i) k : gb (cellAt (bC (rwAt X i)) k) = xAt X i k)
 have hok := fun i k (hi : i < m.length) (hk : k < m.length + 1) => (ok_bC (by have := hr.2 i (by omega); omega) : okK .bool (cellAt (bC (rwAt X i)) k))
 have hnr := fun i => nB_eq (rwAt X i)
 have hlr := fun i => bC_len (rwAt X i)
 have hrow := fun i (hi : i < m.length) => hr.2 i (by omega)
 have rb := fun i => (gb_bC r i : gb (cellAt (bC r) i) = bAt r i)
 have ro := fun i (hi : i < m.length) => (ok_bC (by omega) : okK .bool (cellAt (bC r) i))
 have rl := bC_len r
 have rn := nB_eq r
 have ub := fun i => (gb_bC U i : gb (cellAt (bC U) i) = bAt U i)
 have uo := fun i (hi : i < m.length) => (ok_bC (by omega) : okK .bool (cellAt (bC U) i))
 have ul := bC_len U
 have un := nB_eq U
 have vU : ∀ c ∈ useC (mC m), ∃ v, c = .val v := by rw [eu]; exact bC_vals _
 have vR : ∀ c ∈ rchC (mC m), ∃ v, c = .val v := by rw [e3]; exact bC_vals _
 rw [← e3] at rl
 rw [← eu] at ul
 simp only [← e3] at rb ro
 simp only [← eu] at ub uo
 simp only [← e1] at hci lv
 rw [← e2] at nv lv
 clear e1 e2 e3 eu hr
 generalize y_apC : @apC = x_apC at *
 generalize y_nApC : @nApC = x_nApC at *
 generalize y_rchC : @rchC = x_rchC at *
 generalize y_useC : @useC = x_useC at *
 generalize y_fitC : @fitC = x_fitC at *
 generalize y_bC : @bC = x_bC at *
 generalize y_mC : @mC = x_mC at *
 generalize y_nM : @nM = x_nM at *
 generalize y_mtC : @mtC = x_mtC at *
 generalize y_nMt : @nMt = x_nMt at *
 (repeat' first | ((first | with_reducible refine tr_cut (fun h => ?_) (fun h => ?_) | refine aw_condj (by cbv) (fun h => ?_) (fun h => ?_)) <;> (try simp (disch := omega) only [hj, std, cmpI, cmpB, satB, Bool.not_eq_true, Bool.not_eq_false, decide_eq_true_eq, decide_eq_false_iff_not, beq_iff_eq, bne_iff_ne, bne_eq_false_iff_eq, beq_eq_false_iff_ne, ne_eq, reduceCtorEq, not_true_eq_false, not_false_eq_true, pl0, if_true, cmpS_eq, cmpS_neq, Bool.not_eq_eq_eq_not, Bool.not_true, Bool.not_false, Bool.not_eq_true', ef, Int.ofNat_eq_natCast, add64, sub64] at h) <;> (try (exfalso; omega))) | (with_reducible refine tr_alt (fun h => ?_) ?_ <;> (try (exfalso; omega))) | (with_reducible first | refine tr_ob ?_ ?_ | refine tr_done ?_) | (refine aw_tr hj tok (bookMU x_apC x_nApC x_rchC x_useC x_fitC) (by cbv) ?_) | (refine aw_seq fun K hK => ?_) | (refine aw_tr1 hj tok (bookMU x_apC x_nApC x_rchC x_useC x_fitC) (by cbv) ?_) | (refine aw_skip ?_) | (refine aw_block ?_) | (refine aw_exit ?_) | (refine aw_ret ⟨.inr rfl, ret_okj hj (by cbv) ?_ ?_⟩) | (refine aw_ret ?_) | (with_reducible first | refine th_n ?_ | refine th_r ?_ | refine th_x ?_ | refine blk_n ?_ | refine blk_r ?_ | refine blk_x ?_ | refine blk_y rfl ?_) | (refine ⟨.inr rfl, ret_okj hj (by cbv) ?_ ?_⟩) | (refine ⟨.inl rfl, ret_okj hj (by cbv) ?_ ?_⟩) | (with_reducible refine ⟨_, by cbv, ?_, ?_⟩) | (with_reducible apply_assumption -symm -exfalso only [*]))
 all_goals ((try subst y_apC); (try subst y_nApC); (try subst y_rchC); (try subst y_useC); (try subst y_fitC); (try subst y_bC); (try subst y_mC); (try subst y_nM); (try subst y_mtC); (try subst y_nMt))
 all_goals (try (repeat' first | with_reducible exact obl0 | (with_reducible refine obl1 ?_ ?_)))
 all_goals (try first | with_reducible exact True.intro | ((first | refine ob_pc hj ?_ | refine ob_pcn hj ?_); (try rw [hj]); first | exact cF | exact cU | exact cR | exact cA | exact cW) | ((first | refine ob_le hj ?_ | refine ob_lei hj ?_ | refine ob_inb hj ?_ | refine ob_pos hj ?_ | refine ob_ne0 hj ?_ | refine ob_eqb hj ?_); (first | rfl | first | omega | (simp only [hj, std]; split <;> omega) | (simp (disch := omega) only [hj, std, cmpI, cmpB, satB, add64, sub64, ite0, pl0, pl2, pl3, sb0, if_true, if_false, eq_self] <;> omega) | (simp (disch := omega) [hj, std, cmpI, cmpB, satB, add64, sub64, ite0, pl0, pl2, pl3, sb0, if_true, if_false, eq_self] <;> omega))) | ((refine ob_vals hj ?_; first | exact vU | exact vR)) | (exact rfl))
 refine aw_lpj hj [(0, .keep), (3, .own b9), (4, .own b9), (5, .tree sh9), (6, .keep)] [] (fun (i : Int) => stOf 49 [(0, .one (.c (.sl (nM m) (mC m)))), (3, .one (.view 3 0)), (4, .one (.view 4 0)), (5, .one (.tv 5 0 [])), (6, .one (.c (vI i)))] [(3, .loose [.own b9 (nM m) (useC (mC m))]), (4, .loose [.own b9 (nM m) (rchC (mC m))]), (5, .loose [.tree sh9 ((.sl (nApC (mC m) (mC m) 6) (apC (mC m) (mC m) 6))) none])]) (fun (i : Int) => nM m - i.toNat) (fun (i : Int) => 0 ≤ i ∧ i ≤ nM m) (0) (by generalize @apC = x_apC; generalize @nApC = x_nApC; generalize @rchC = x_rchC; generalize @useC = x_useC; generalize @fitC = x_fitC; generalize @bC = x_bC; generalize @mC = x_mC; generalize @nM = x_nM; generalize @mtC = x_mtC; generalize @nMt = x_nMt; cbv) ?_ (fun i hI => ?_)
 ·exact ⟨by omega, by omega⟩
 obtain ⟨i1, i2⟩ := hI
 rcases Decidable.em (i < (nM m : Int)) with hi | hi
 rotate_left
 ·generalize y_apC : @apC = x_apC at *
  generalize y_nApC : @nApC = x_nApC at *
  generalize y_rchC : @rchC = x_rchC at *
  generalize y_useC : @useC = x_useC at *
  generalize y_fitC : @fitC = x_fitC at *
  generalize y_bC : @bC = x_bC at *
  generalize y_mC : @mC = x_mC at *
  generalize y_nM : @nM = x_nM at *
  generalize y_mtC : @mtC = x_mtC at *
  generalize y_nMt : @nMt = x_nMt at *
  (repeat' first | ((first | with_reducible refine tr_cut (fun h => ?_) (fun h => ?_) | refine aw_condj (by cbv) (fun h => ?_) (fun h => ?_)) <;> (try simp (disch := omega) only [hj, std, cmpI, cmpB, satB, Bool.not_eq_true, Bool.not_eq_false, decide_eq_true_eq, decide_eq_false_iff_not, beq_iff_eq, bne_iff_ne, bne_eq_false_iff_eq, beq_eq_false_iff_ne, ne_eq, reduceCtorEq, not_true_eq_false, not_false_eq_true, pl0, if_true, cmpS_eq, cmpS_neq, Bool.not_eq_eq_eq_not, Bool.not_true, Bool.not_false, Bool.not_eq_true', Int.ofNat_eq_natCast, add64, sub64] at h) <;> (try (exfalso; omega))) | (with_reducible refine tr_alt (fun h => ?_) ?_ <;> (try (exfalso; omega))) | (with_reducible first | refine tr_ob ?_ ?_ | refine tr_done ?_) | (refine aw_tr hj tok (bookMU x_apC x_nApC x_rchC x_useC x_fitC) (by cbv) ?_) | (refine aw_seq fun K hK => ?_) | (refine aw_tr1 hj tok (bookMU x_apC x_nApC x_rchC x_useC x_fitC) (by cbv) ?_) | (refine aw_skip ?_) | (refine aw_block ?_) | (refine aw_exit ?_) | (refine aw_ret ⟨.inr rfl, ret_okj hj (by cbv) ?_ ?_⟩) | (refine aw_ret ?_) | (with_reducible first | refine th_n ?_ | refine th_r ?_ | refine th_x ?_ | refine blk_n ?_ | refine blk_r ?_ | refine blk_x ?_ | refine blk_y rfl ?_) | (refine ⟨.inr rfl, ret_okj hj (by cbv) ?_ ?_⟩) | (refine ⟨.inl rfl, ret_okj hj (by cbv) ?_ ?_⟩) | (with_reducible refine ⟨_, by cbv, ?_, ?_⟩) | (with_reducible apply_assumption -symm -exfalso only [*]))
  all_goals ((try subst y_apC); (try subst y_nApC); (try subst y_rchC); (try subst y_useC); (try subst y_fitC); (try subst y_bC); (try subst y_mC); (try subst y_nM); (try subst y_mtC); (try subst y_nMt))
  all_goals (try (repeat' first | with_reducible exact obl0 | (with_reducible refine obl1 ?_ ?_)))
  all_goals (try first | with_reducible exact True.intro | ((first | refine ob_pc hj ?_ | refine ob_pcn hj ?_); (try rw [hj]); first | exact cW) | ((first | refine ob_le hj ?_ | refine ob_lei hj ?_ | refine ob_inb hj ?_ | refine ob_pos hj ?_ | refine ob_ne0 hj ?_ | refine ob_eqb hj ?_); (first | rfl | first | omega | (simp only [hj, std]; split <;> omega) | (simp (disch := omega) only [hj, std, cmpI, cmpB, satB, add64, sub64, ite0, pl0, pl2, pl3, sb0, if_true, if_false, eq_self] <;> omega) | (simp (disch := omega) [hj, std, cmpI, cmpB, satB, add64, sub64, ite0, pl0, pl2, pl3, sb0, if_true, if_false, eq_self] <;> omega))) | (exact rfl))
 have f1 : (i + 1).toNat = i.toNat + 1 := by omega
 have q0 := hci i.toNat (by omega)
 have q1 := hrow i.toNat (by omega)
 have q2 : gb (cellAt (bC (rwAt X i.toNat)) (nM m)) = xAt X i.toNat (nM m) := hw3 i.toNat (nM m)
 have q3 := hok i.toNat (nM m) (by omega) (by omega)
 have q4 := hnr i.toNat
 have q5 := hlr i.toNat
 have r1 := rb i.toNat
 have r2 := ro i.toNat (by omega)
 have u1 := ub i.toNat
 have u2 := uo i.toNat (by omega)
 have hq := hat (i := i.toNat) (by omega)
 rw [← n1] at hq
 generalize bAt U i.toNat = bu at *
 generalize bAt r i.toNat = br at *
 generalize xAt X i.toNat (nM m) = bx at *
 clear hci hrow hw3 hok hnr hlr rb ro ub uo hat
 cases br <;> cases bx
 all_goals
  have hq : bu = _ := hq.trans rfl
  simp only [Bool.false_and, Bool.true_and, Bool.and_false] at hq
  subst hq
  generalize y_apC : @apC = x_apC at *
  generalize y_nApC : @nApC = x_nApC at *
  generalize y_rchC : @rchC = x_rchC at *
  generalize y_useC : @useC = x_useC at *
  generalize y_fitC : @fitC = x_fitC at *
  generalize y_bC : @bC = x_bC at *
  generalize y_mC : @mC = x_mC at *
  generalize y_nM : @nM = x_nM at *
  generalize y_mtC : @mtC = x_mtC at *
  generalize y_nMt : @nMt = x_nMt at *
  (repeat' first | ((first | with_reducible refine tr_cut (fun h => ?_) (fun h => ?_) | refine aw_condj (by cbv) (fun h => ?_) (fun h => ?_)) <;> (try simp (disch := omega) only [hj, std, cmpI, cmpB, satB, Bool.not_eq_true, Bool.not_eq_false, decide_eq_true_eq, decide_eq_false_iff_not, beq_iff_eq, bne_iff_ne, bne_eq_false_iff_eq, beq_eq_false_iff_ne, ne_eq, reduceCtorEq, not_true_eq_false, not_false_eq_true, pl0, if_true, cmpS_eq, cmpS_neq, Bool.not_eq_eq_eq_not, Bool.not_true, Bool.not_false, Bool.not_eq_true', q0, q2, r1, u1, ite0, Int.ofNat_eq_natCast, Int.toNat_natCast, add64, sub64] at h) <;> (try (exfalso; omega))) | (with_reducible refine tr_alt (fun h => ?_) ?_ <;> (try (exfalso; omega))) | (with_reducible first | refine tr_ob ?_ ?_ | refine tr_done ?_) | (refine aw_dr1 (id := 11) hj tok hm (bookMU x_apC x_nApC x_rchC x_useC x_fitC) true [(0, false), (1, false), (2, false), (3, false), (4, false), (5, true), (6, true), (7, true), (8, true), (9, false), (10, false), (11, false), (12, false), (13, true), (14, true), (15, true), (16, true), (17, true), (18, true)] (by kernel_rfl) (by cbv) ?_) | (refine aw_dr (id := 11) hj tok hm (bookMU x_apC x_nApC x_rchC x_useC x_fitC) true [(0, false), (1, false), (2, false), (3, false), (4, false), (5, true), (6, true), (7, true), (8, true), (9, false), (10, false), (11, false), (12, false), (13, true), (14, true), (15, true), (16, true), (17, true), (18, true)] (by kernel_rfl) (by cbv) ?_) | (refine aw_tr hj tok (bookMU x_apC x_nApC x_rchC x_useC x_fitC) (by cbv) ?_) | (refine aw_seq fun K hK => ?_) | (refine aw_tr1 hj tok (bookMU x_apC x_nApC x_rchC x_useC x_fitC) (by cbv) ?_) | (refine aw_skip ?_) | (refine aw_block ?_) | (refine aw_exit ?_) | (refine aw_ret ⟨.inr rfl, ret_okj hj (by cbv) ?_ ?_⟩) | (refine aw_ret ?_) | (with_reducible first | refine th_n ?_ | refine th_r ?_ | refine th_x ?_ | refine blk_n ?_ | refine blk_r ?_ | refine blk_x ?_ | refine blk_y rfl ?_) | (refine ⟨.inr rfl, ret_okj hj (by cbv) ?_ ?_⟩) | (refine ⟨.inl rfl, ret_okj hj (by cbv) ?_ ?_⟩) | (with_reducible refine ⟨_, by cbv, ?_, ?_⟩) | (with_reducible apply_assumption -symm -exfalso only [*]))
  all_goals ((try subst y_apC); (try subst y_nApC); (try subst y_rchC); (try subst y_useC); (try subst y_fitC); (try subst y_bC); (try subst y_mC); (try subst y_nM); (try subst y_mtC); (try subst y_nMt))
  all_goals (try (repeat' first | with_reducible exact obl0 | with_reducible refine obl1 ?_ ?_))
  all_goals (try first | with_reducible exact True.intro | ((first | refine ob_le hj ?_ | refine ob_lei hj ?_ | refine ob_inb hj ?_ | refine ob_pos hj ?_ | refine ob_ne0 hj ?_ | refine ob_eqb hj ?_); (first | rfl | first | omega | (simp only [hj, std]; split <;> omega) | (simp (disch := omega) only [hj, std, cmpI, cmpB, satB, add64, sub64, ite0, pl0, pl2, pl3, sb0, if_true, if_false, eq_self, lv, nv, q4, q5, q0, rl, rn, ul, un, Int.ofNat_eq_natCast, Int.toNat_natCast] <;> omega) | (simp (disch := omega) [hj, std, cmpI, cmpB, satB, add64, sub64, ite0, pl0, pl2, pl3, sb0, if_true, if_false, eq_self, lv, nv, q4, q5, q0, rl, rn, ul, un, Int.ofNat_eq_natCast, Int.toNat_natCast] <;> omega))) | ((refine ob_ok hj ?_; simp only [hj, std, ite0, Int.ofNat_eq_natCast, q0, Int.toNat_natCast]; first | exact .inr ⟨_, _, rfl⟩ | exact .inr ⟨_, _, q0⟩ | exact q3 | exact r2 | exact u2)) | ((simp (disch := omega) only [hj, std, add64, ite0]; first | omega | exact ⟨by omega, by omega⟩)))
end Go.Proofs.YtcpcghnpoekhpaaDoor.A
