/- What MiniOne needs beyond, part 1. -/
import Derived.Test.YtcpcghnpoekhpaaDoorMz6
import Derived.WalkKit
import Derived.WalkSpells
import Derived.WalkLawsBesides
import Derived.Lib.Hide
import Derived.Laws.AppendOwnNone
import Derived.Laws.CopyOwn
import Derived.BigQuiet
import Derived.Deep.QuietTactic
import Derived.Deep.RegionHeld3
import Derived.Deep.AppendLies
import Derived.OrdersHeld
import Derived.MapKept
import Derived.Laws.StructEq
import Derived.Great.BuildSlice
import Derived.Laws.IdiomStrings
import Derived.Lib.AppendZeros
import Derived.ProofKit
import Derived.OpenShut
import Derived.SizedLaws
import Derived.Deep.Slices
import Derived.Deep.Strs
import Derived.NoCompiler
import Derived.Test.YtcpcghnpoekhpaaDoorProg
import Derived.Shelf.Strconv.Itoa0
import Derived.Shelf.Strconv.Itoa1
import Derived.Shelf.Strconv.Itoa2
import Derived.Shelf.Strconv.Itoa3
import Derived.Shelf.LaysM
import Derived.Lib.ItoaNum
import Derived.Lib.ItoaLen
import Derived.BigCall
import Derived.BigRegion
import Derived.StillTailTactics
import Derived.Laws.EntriesVeiled
import Derived.Test.YtcpcghnpoekhpaaDoorRows
import Derived.LaidMore
import Derived.SevenTiedAt
import Derived.Lib.LaidTab
import Derived.MakeChecks
/- Machines: fits; two machines are the same: the reference. -/
set_option linter.unusedSimpArgs false
set_option linter.unusedVariables false
set_option maxRecDepth 100000
set_option maxHeartbeats 4000000
namespace Go.Proofs.YtcpcghnpoekhpaaDoor.A
open Go
theorem pc_Same24 (a b : List Sta) (ha : SzM a) (hb : SzM b) : PC Tryd.prog T 16 [.v false [.sl (nM a) (mC a)], .v false [.sl (nM b) (mC b)]] (ret1 (.st (vB (sameM a b)))) [] := by
  have n1 := nM_eq a
  have n2 := nM_eq b
  have l1 := mC_len a
  have l2 := mC_len b
  have t1 := mC_at a
  have t2 := mC_at b
  have z1 := @SzM.at a ha
  have z2 := @SzM.at b hb
  have s1 := ha.1
  have s2 := hb.1
  have hlen : nM a ≠ nM b → sameM a b = false := fun h => decide_eq_false fun hh => h (by rw [hh])
  have hno : ∀ k, mAt a k ≠ mAt b k → sameM a b = false := fun k h => decide_eq_false fun hh => h (by rw [hh])
  have hyes : a = b → sameM a b = true := fun h => decide_eq_true h
  have k1 := @take_st a
  have k2 := @take_st b
  generalize sameM a b = R at *
  refine pc_of tok Tryd.func16 rfl (by rfl) ?_
  obtain ⟨j, hj⟩ : ∃ j : J, j = std Tryd.prog T := ⟨_, rfl⟩
  have hm : Tryd.prog.follows .mixedOrders = true := by kernel_rfl
  rcases Decidable.em (nM a = nM b) with h0 | h0
  rotate_left
  · have hE := hlen h0
    generalize y_eC : @eC = x_eC at *
    generalize y_nE : @nE = x_nE at *
    generalize y_mC : @mC = x_mC at *
    generalize y_nM : @nM = x_nM at *
    (repeat' first | ((first | with_reducible refine tr_cut (fun h => ?_) (fun h => ?_) | refine aw_condj (by cbv) (fun h => ?_) (fun h => ?_)) <;> (try simp (disch := omega) only [hj, std, cmpI, cmpB, satB, Bool.not_eq_true, Bool.not_eq_false, decide_eq_true_eq, decide_eq_false_iff_not, beq_iff_eq, bne_iff_ne, bne_eq_false_iff_eq, beq_eq_false_iff_ne, ne_eq, reduceCtorEq, not_true_eq_false, not_false_eq_true, pl0, if_true, cmpS_eq, cmpS_neq, Bool.not_eq_eq_eq_not, Bool.not_true, Bool.not_false, Bool.not_eq_true', Int.ofNat_eq_natCast, add64, sub64] at h) <;> (try (exfalso; omega))) | (with_reducible refine tr_alt (fun h => ?_) ?_ <;> (try (exfalso; omega))) | (with_reducible first | refine tr_ob ?_ ?_ | refine tr_done ?_) | (refine aw_tr hj tok book0 (by cbv) ?_) | (refine aw_seq fun K hK => ?_) | (refine aw_tr1 hj tok book0 (by cbv) ?_) | (refine aw_skip ?_) | (refine aw_block ?_) | (refine aw_exit ?_) | (refine aw_ret ⟨.inr rfl, ret_okj hj (by cbv) ?_ ?_⟩) | (refine aw_ret ?_) | (with_reducible first | refine th_n ?_ | refine th_r ?_ | refine th_x ?_ | refine blk_n ?_ | refine blk_r ?_ | refine blk_x ?_ | refine blk_y rfl ?_) | (refine ⟨.inr rfl, ret_okj hj (by cbv) ?_ ?_⟩) | (refine ⟨.inl rfl, ret_okj hj (by cbv) ?_ ?_⟩) | (with_reducible refine ⟨_, by cbv, ?_, ?_⟩) | (with_reducible apply_assumption -symm -exfalso only [*]))
    all_goals ((try subst y_eC); (try subst y_nE); (try subst y_mC); (try subst y_nM))
    all_goals (try (repeat' first | with_reducible exact obl0 | (with_reducible refine obl1 ?_ ?_)))
    all_goals (try first | with_reducible exact True.intro | ((first | refine ob_le hj ?_ | refine ob_lei hj ?_ | refine ob_inb hj ?_ | refine ob_pos hj ?_ | refine ob_ne0 hj ?_ | refine ob_eqb hj ?_); (first | rfl | first | omega | (simp only [hj, std]; split <;> omega) | (simp (disch := omega) only [hj, std, cmpI, cmpB, satB, add64, sub64, ite0, pl0, pl2, pl3, sb0, if_true, if_false, eq_self] <;> omega) | (simp (disch := omega) [hj, std, cmpI, cmpB, satB, add64, sub64, ite0, pl0, pl2, pl3, sb0, if_true, if_false, eq_self] <;> omega))) | ((rw [hE]; exact rfl)))
  generalize y_eC : @eC = x_eC at *
  generalize y_nE : @nE = x_nE at *
  generalize y_mC : @mC = x_mC at *
  generalize y_nM : @nM = x_nM at *
  (repeat' first | ((first | with_reducible refine tr_cut (fun h => ?_) (fun h => ?_) | refine aw_condj (by cbv) (fun h => ?_) (fun h => ?_)) <;> (try simp (disch := omega) only [hj, std, cmpI, cmpB, satB, Bool.not_eq_true, Bool.not_eq_false, decide_eq_true_eq, decide_eq_false_iff_not, beq_iff_eq, bne_iff_ne, bne_eq_false_iff_eq, beq_eq_false_iff_ne, ne_eq, reduceCtorEq, not_true_eq_false, not_false_eq_true, pl0, if_true, cmpS_eq, cmpS_neq, Bool.not_eq_eq_eq_not, Bool.not_true, Bool.not_false, Bool.not_eq_true', Int.ofNat_eq_natCast, add64, sub64] at h) <;> (try (exfalso; omega))) | (with_reducible refine tr_alt (fun h => ?_) ?_ <;> (try (exfalso; omega))) | (with_reducible first | refine tr_ob ?_ ?_ | refine tr_done ?_) | (refine aw_tr hj tok book0 (by cbv) ?_) | (refine aw_seq fun K hK => ?_) | (refine aw_tr1 hj tok book0 (by cbv) ?_) | (refine aw_skip ?_) | (refine aw_block ?_) | (refine aw_exit ?_) | (refine aw_ret ⟨.inr rfl, ret_okj hj (by cbv) ?_ ?_⟩) | (refine aw_ret ?_) | (with_reducible first | refine th_n ?_ | refine th_r ?_ | refine th_x ?_ | refine blk_n ?_ | refine blk_r ?_ | refine blk_x ?_ | refine blk_y rfl ?_) | (refine ⟨.inr rfl, ret_okj hj (by cbv) ?_ ?_⟩) | (refine ⟨.inl rfl, ret_okj hj (by cbv) ?_ ?_⟩) | (with_reducible refine ⟨_, by cbv, ?_, ?_⟩) | (with_reducible apply_assumption -symm -exfalso only [*]))
  all_goals ((try subst y_eC); (try subst y_nE); (try subst y_mC); (try subst y_nM))
  all_goals (try (repeat' first | with_reducible exact obl0 | (with_reducible refine obl1 ?_ ?_)))
  all_goals (try first | with_reducible exact True.intro | ((first | refine ob_le hj ?_ | refine ob_lei hj ?_ | refine ob_inb hj ?_ | refine ob_pos hj ?_ | refine ob_ne0 hj ?_ | refine ob_eqb hj ?_); (first | rfl | first | omega | (simp only [hj, std]; split <;> omega) | (simp (disch := omega) only [hj, std, cmpI, cmpB, satB, add64, sub64, ite0, pl0, pl2, pl3, sb0, if_true, if_false, eq_self] <;> omega) | (simp (disch := omega) [hj, std, cmpI, cmpB, satB, add64, sub64, ite0, pl0, pl2, pl3, sb0, if_true, if_false, eq_self] <;> omega))))
  refine aw_lpj hj [(0, .keep), (1, .keep), (5, .keep)] [] (fun (k : Int) => stOf 71 [(0, .one (.c (.sl (nM a) (mC a)))), (1, .one (.c (.sl (nM b) (mC b)))), (5, .one (.c (vI k)))] []) (fun (k : Int) => nM a - k.toNat) (fun (k : Int) => 0 ≤ k ∧ k ≤ nM a ∧ a.take k.toNat = b.take k.toNat) (0) (by generalize @eC = x_eC; generalize @nE = x_nE; generalize @mC = x_mC; generalize @nM = x_nM; cbv) ?_ (fun k hI => ?_)
  · exact ⟨by omega, by omega, rfl⟩
  obtain ⟨i1, i2, hI⟩ := hI
  rcases Decidable.em (k < (nM a : Int)) with hk | hk
  · obtain ⟨a0, a1⟩ := t1 k.toNat (by omega)
    obtain ⟨b0, b1⟩ := t2 k.toNat (by omega)
    have z1 := z1 (k := k.toNat) (by omega)
    have z2 := z2 (k := k.toNat) (by omega)
    have hno := hno k.toNat
    have f1 : (k + 1).toNat = k.toNat + 1 := by omega
    have hst : mAt a k.toNat = mAt b k.toNat → a.take (k + 1).toNat = b.take (k + 1).toNat := fun h => by rw [f1, k1 (by omega), k2 (by omega), hI, h]
    have g0 : gi (cellAt (mC a) (k.toNat * 2)) = (mAt a k.toNat).1 := by rw [a0]; rfl
    have g1 : gn (cellAt (mC a) (k.toNat * 2 + 1)) = nE (mAt a k.toNat).2 := by rw [a1]; rfl
    have g2 : gc (cellAt (mC a) (k.toNat * 2 + 1)) = eC (mAt a k.toNat).2 := by rw [a1]; rfl
    have w0 : gi (cellAt (mC b) (k.toNat * 2)) = (mAt b k.toNat).1 := by rw [b0]; rfl
    have w1 : gn (cellAt (mC b) (k.toNat * 2 + 1)) = nE (mAt b k.toNat).2 := by rw [b1]; rfl
    have w2 : gc (cellAt (mC b) (k.toNat * 2 + 1)) = eC (mAt b k.toNat).2 := by rw [b1]; rfl
    generalize mAt a k.toNat = X at *
    generalize mAt b k.toNat = Y at *
    obtain ⟨x, p⟩ := X
    obtain ⟨y, q⟩ := Y
    dsimp only at z1 z2 a0 a1 b0 b1 g0 g1 g2 w0 w1 w2
    have hx : x ≠ y → R = false := fun h => hno fun e => h (congrArg Prod.fst e)
    have hp : nE p ≠ nE q → R = false := fun h => hno fun e => h (by rw [show p = q from congrArg Prod.snd e])
    have hpe : ∀ i, eAt p i ≠ eAt q i → R = false := fun i h => hno fun e => h (by rw [show p = q from congrArg Prod.snd e])
    have hst : x = y → p = q → a.take (k + 1).toNat = b.take (k + 1).toNat := fun h h' => hst (by rw [h, h'])
    have m1 := nE_eq p
    have m2 := nE_eq q
    have m3 := eC_len p
    have m4 := eC_len q
    have m5 := eC_at p
    have m6 := eC_at q
    have k3 := @take_eg p
    have k4 := @take_eg q
    clear hno hI k1 k2 t1 t2 hlen hyes
    rcases Decidable.em (x = y ∧ nE p = nE q) with hxy | hxy
    rotate_left
    · have hE : R = false := by
        rcases Decidable.em (x = y) with e | e
        · exact hp fun e2 => hxy ⟨e, e2⟩
        · exact hx e
      generalize y_eC : @eC = x_eC at *
      generalize y_nE : @nE = x_nE at *
      generalize y_mC : @mC = x_mC at *
      generalize y_nM : @nM = x_nM at *
      (repeat' first | ((first | with_reducible refine tr_cut (fun h => ?_) (fun h => ?_) | refine aw_condj (by cbv) (fun h => ?_) (fun h => ?_)) <;> (try simp (disch := omega) only [hj, std, cmpI, cmpB, satB, Bool.not_eq_true, Bool.not_eq_false, decide_eq_true_eq, decide_eq_false_iff_not, beq_iff_eq, bne_iff_ne, bne_eq_false_iff_eq, beq_eq_false_iff_ne, ne_eq, reduceCtorEq, not_true_eq_false, not_false_eq_true, pl0, if_true, cmpS_eq, cmpS_neq, Bool.not_eq_eq_eq_not, Bool.not_true, Bool.not_false, Bool.not_eq_true', g0, g1, w0, w1, ite0, Int.ofNat_eq_natCast, add64, sub64] at h) <;> (try (exfalso; omega))) | (with_reducible refine tr_alt (fun h => ?_) ?_ <;> (try (exfalso; omega))) | (with_reducible first | refine tr_ob ?_ ?_ | refine tr_done ?_) | (refine aw_dr1 (id := 6) hj tok hm book0 true [(0, false), (1, false), (2, false), (3, false), (4, false), (5, false), (6, true), (7, true), (8, true), (9, true), (10, true), (11, true), (12, false), (13, false), (14, false), (15, false), (16, false), (17, false), (18, false), (19, true), (20, true), (21, true), (22, true), (23, true), (24, true), (25, true)] (by kernel_rfl) (by cbv) ?_) | (refine aw_dr (id := 6) hj tok hm book0 true [(0, false), (1, false), (2, false), (3, false), (4, false), (5, false), (6, true), (7, true), (8, true), (9, true), (10, true), (11, true), (12, false), (13, false), (14, false), (15, false), (16, false), (17, false), (18, false), (19, true), (20, true), (21, true), (22, true), (23, true), (24, true), (25, true)] (by kernel_rfl) (by cbv) ?_) | (refine aw_tr hj tok book0 (by cbv) ?_) | (refine aw_seq fun K hK => ?_) | (refine aw_tr1 hj tok book0 (by cbv) ?_) | (refine aw_skip ?_) | (refine aw_block ?_) | (refine aw_exit ?_) | (refine aw_ret ⟨.inr rfl, ret_okj hj (by cbv) ?_ ?_⟩) | (refine aw_ret ?_) | (with_reducible first | refine th_n ?_ | refine th_r ?_ | refine th_x ?_ | refine blk_n ?_ | refine blk_r ?_ | refine blk_x ?_ | refine blk_y rfl ?_) | (refine ⟨.inr rfl, ret_okj hj (by cbv) ?_ ?_⟩) | (refine ⟨.inl rfl, ret_okj hj (by cbv) ?_ ?_⟩) | (with_reducible refine ⟨_, by cbv, ?_, ?_⟩) | (with_reducible apply_assumption -symm -exfalso only [*]))
      all_goals ((try subst y_eC); (try subst y_nE); (try subst y_mC); (try subst y_nM))
      all_goals (try (repeat' first | with_reducible exact obl0 | (with_reducible refine obl1 ?_ ?_)))
      all_goals (try first | with_reducible exact True.intro | ((first | refine ob_le hj ?_ | refine ob_lei hj ?_ | refine ob_inb hj ?_ | refine ob_pos hj ?_ | refine ob_ne0 hj ?_ | refine ob_eqb hj ?_); (first | rfl | first | omega | (simp only [hj, std]; split <;> omega) | (simp (disch := omega) only [hj, std, cmpI, cmpB, satB, add64, sub64, ite0, pl0, pl2, pl3, sb0, if_true, if_false, eq_self, l1, l2, g0, g1, w0, w1] <;> omega) | (simp (disch := omega) [hj, std, cmpI, cmpB, satB, add64, sub64, ite0, pl0, pl2, pl3, sb0, if_true, if_false, eq_self, l1, l2, g0, g1, w0, w1] <;> omega))) | ((refine ob_ok hj ?_; simp only [hj, std, ite0]; first | exact ⟨_, a0⟩ | exact .inr ⟨_, _, a1⟩ | exact ⟨_, b0⟩ | exact .inr ⟨_, _, b1⟩)) | ((rw [hE]; exact rfl)) | ((exact absurd ⟨by omega, by omega⟩ hxy)))
    obtain ⟨hxy, hpq⟩ := hxy
    generalize y_eC : @eC = x_eC at *
    generalize y_nE : @nE = x_nE at *
    generalize y_mC : @mC = x_mC at *
    generalize y_nM : @nM = x_nM at *
    (repeat' first | ((first | with_reducible refine tr_cut (fun h => ?_) (fun h => ?_) | refine aw_condj (by cbv) (fun h => ?_) (fun h => ?_)) <;> (try simp (disch := omega) only [hj, std, cmpI, cmpB, satB, Bool.not_eq_true, Bool.not_eq_false, decide_eq_true_eq, decide_eq_false_iff_not, beq_iff_eq, bne_iff_ne, bne_eq_false_iff_eq, beq_eq_false_iff_ne, ne_eq, reduceCtorEq, not_true_eq_false, not_false_eq_true, pl0, if_true, cmpS_eq, cmpS_neq, Bool.not_eq_eq_eq_not, Bool.not_true, Bool.not_false, Bool.not_eq_true', g0, g1, w0, w1, ite0, Int.ofNat_eq_natCast, add64, sub64] at h) <;> (try (exfalso; omega))) | (with_reducible refine tr_alt (fun h => ?_) ?_ <;> (try (exfalso; omega))) | (with_reducible first | refine tr_ob ?_ ?_ | refine tr_done ?_) | (refine aw_dr1 (id := 6) hj tok hm book0 true [(0, false), (1, false), (2, false), (3, false), (4, false), (5, false), (6, true), (7, true), (8, true), (9, true), (10, true), (11, true), (12, false), (13, false), (14, false), (15, false), (16, false), (17, false), (18, false), (19, true), (20, true), (21, true), (22, true), (23, true), (24, true), (25, true)] (by kernel_rfl) (by cbv) ?_) | (refine aw_dr (id := 6) hj tok hm book0 true [(0, false), (1, false), (2, false), (3, false), (4, false), (5, false), (6, true), (7, true), (8, true), (9, true), (10, true), (11, true), (12, false), (13, false), (14, false), (15, false), (16, false), (17, false), (18, false), (19, true), (20, true), (21, true), (22, true), (23, true), (24, true), (25, true)] (by kernel_rfl) (by cbv) ?_) | (refine aw_tr hj tok book0 (by cbv) ?_) | (refine aw_seq fun K hK => ?_) | (refine aw_tr1 hj tok book0 (by cbv) ?_) | (refine aw_skip ?_) | (refine aw_block ?_) | (refine aw_exit ?_) | (refine aw_ret ⟨.inr rfl, ret_okj hj (by cbv) ?_ ?_⟩) | (refine aw_ret ?_) | (with_reducible first | refine th_n ?_ | refine th_r ?_ | refine th_x ?_ | refine blk_n ?_ | refine blk_r ?_ | refine blk_x ?_ | refine blk_y rfl ?_) | (refine ⟨.inr rfl, ret_okj hj (by cbv) ?_ ?_⟩) | (refine ⟨.inl rfl, ret_okj hj (by cbv) ?_ ?_⟩) | (with_reducible refine ⟨_, by cbv, ?_, ?_⟩) | (with_reducible apply_assumption -symm -exfalso only [*]))
    all_goals ((try subst y_eC); (try subst y_nE); (try subst y_mC); (try subst y_nM))
    all_goals (try (repeat' first | with_reducible exact obl0 | (with_reducible refine obl1 ?_ ?_)))
    all_goals (try first | with_reducible exact True.intro | ((first | refine ob_le hj ?_ | refine ob_lei hj ?_ | refine ob_inb hj ?_ | refine ob_pos hj ?_ | refine ob_ne0 hj ?_ | refine ob_eqb hj ?_); (first | rfl | first | omega | (simp only [hj, std]; split <;> omega) | (simp (disch := omega) only [hj, std, cmpI, cmpB, satB, add64, sub64, ite0, pl0, pl2, pl3, sb0, if_true, if_false, eq_self, l1, l2, g0, g1, w0, w1] <;> omega) | (simp (disch := omega) [hj, std, cmpI, cmpB, satB, add64, sub64, ite0, pl0, pl2, pl3, sb0, if_true, if_false, eq_self, l1, l2, g0, g1, w0, w1] <;> omega))) | ((refine ob_ok hj ?_; simp only [hj, std, ite0]; first | exact ⟨_, a0⟩ | exact .inr ⟨_, _, a1⟩ | exact ⟨_, b0⟩ | exact .inr ⟨_, _, b1⟩)))
    refine aw_lpj hj [(0, .keep), (1, .keep), (5, .keep), (6, .keep)] [] (fun (i : Int) => stOf 71 [(0, .one (.c (.sl (nM a) (mC a)))), (1, .one (.c (.sl (nM b) (mC b)))), (5, .one (.c (vI k))), (6, .one (.c (vI i)))] []) (fun (i : Int) => nE p - i.toNat) (fun (i : Int) => 0 ≤ i ∧ i ≤ nE p ∧ p.take i.toNat = q.take i.toNat) (0) (by generalize @eC = x_eC; generalize @nE = x_nE; generalize @mC = x_mC; generalize @nM = x_nM; cbv) ?_ (fun i hI => ?_)
    · exact ⟨by omega, by omega, rfl⟩
    obtain ⟨q1, q2, hQ⟩ := hI
    rcases Decidable.em (i < (nE p : Int)) with hi | hi
    · obtain ⟨c0, c1⟩ := m5 i.toNat (by omega)
      obtain ⟨d0, d1⟩ := m6 i.toNat (by omega)
      have hpe := hpe i.toNat
      have f2 : (i + 1).toNat = i.toNat + 1 := by omega
      have hst2 : eAt p i.toNat = eAt q i.toNat → p.take (i + 1).toNat = q.take (i + 1).toNat := fun h => by rw [f2, k3 (by omega), k4 (by omega), hQ, h]
      generalize eAt p i.toNat = X at *
      generalize eAt q i.toNat = Y at *
      obtain ⟨u, v⟩ := X
      obtain ⟨s, t⟩ := Y
      dsimp only at c0 c1 d0 d1
      have u0 : gi (cellAt (eC p) (i.toNat * 2)) = u := by rw [c0]; rfl
      have u1 : gi (cellAt (eC p) (i.toNat * 2 + 1)) = v := by rw [c1]; rfl
      have v0 : gi (cellAt (eC q) (i.toNat * 2)) = s := by rw [d0]; rfl
      have v1 : gi (cellAt (eC q) (i.toNat * 2 + 1)) = t := by rw [d1]; rfl
      have hu : ¬ (u = s ∧ v = t) → R = false := fun h => hpe fun e => h ⟨congrArg Prod.fst e, congrArg Prod.snd e⟩
      have hst2 : u = s → v = t → p.take (i + 1).toNat = q.take (i + 1).toNat := fun h h' => hst2 (by rw [h, h'])
      clear hpe k3 k4 hQ m5 m6 hst
      generalize y_eC : @eC = x_eC at *
      generalize y_nE : @nE = x_nE at *
      generalize y_mC : @mC = x_mC at *
      generalize y_nM : @nM = x_nM at *
      (repeat' first | ((first | with_reducible refine tr_cut (fun h => ?_) (fun h => ?_) | refine aw_condj (by cbv) (fun h => ?_) (fun h => ?_)) <;> (try simp (disch := omega) only [hj, std, cmpI, cmpB, satB, Bool.not_eq_true, Bool.not_eq_false, decide_eq_true_eq, decide_eq_false_iff_not, beq_iff_eq, bne_iff_ne, bne_eq_false_iff_eq, beq_eq_false_iff_ne, ne_eq, reduceCtorEq, not_true_eq_false, not_false_eq_true, pl0, if_true, cmpS_eq, cmpS_neq, Bool.not_eq_eq_eq_not, Bool.not_true, Bool.not_false, Bool.not_eq_true', g1, g2, w1, w2, u0, u1, v0, v1, ite0, Int.ofNat_eq_natCast, List.cons.injEq, and_true, add64, sub64] at h) <;> (try (exfalso; omega))) | (with_reducible refine tr_alt (fun h => ?_) ?_ <;> (try (exfalso; omega))) | (with_reducible first | refine tr_ob ?_ ?_ | refine tr_done ?_) | (refine aw_dr1 (id := 11) hj tok hm book0 true [(0, false), (1, false), (2, false), (3, false), (4, false), (5, false), (6, false), (7, false), (8, false), (9, false), (10, false), (11, false), (12, false), (13, true), (14, true), (15, true), (16, true)] (by kernel_rfl) (by cbv) ?_) | (refine aw_dr (id := 11) hj tok hm book0 true [(0, false), (1, false), (2, false), (3, false), (4, false), (5, false), (6, false), (7, false), (8, false), (9, false), (10, false), (11, false), (12, false), (13, true), (14, true), (15, true), (16, true)] (by kernel_rfl) (by cbv) ?_) | (refine aw_tr hj tok book0 (by cbv) ?_) | (refine aw_seq fun K hK => ?_) | (refine aw_tr1 hj tok book0 (by cbv) ?_) | (refine aw_skip ?_) | (refine aw_block ?_) | (refine aw_exit ?_) | (refine aw_ret ⟨.inr rfl, ret_okj hj (by cbv) ?_ ?_⟩) | (refine aw_ret ?_) | (with_reducible first | refine th_n ?_ | refine th_r ?_ | refine th_x ?_ | refine blk_n ?_ | refine blk_r ?_ | refine blk_x ?_ | refine blk_y rfl ?_) | (refine ⟨.inr rfl, ret_okj hj (by cbv) ?_ ?_⟩) | (refine ⟨.inl rfl, ret_okj hj (by cbv) ?_ ?_⟩) | (with_reducible refine ⟨_, by cbv, ?_, ?_⟩) | (with_reducible apply_assumption -symm -exfalso only [*]))
      all_goals ((try subst y_eC); (try subst y_nE); (try subst y_mC); (try subst y_nM))
      all_goals (try (repeat' first | with_reducible exact obl0 | (with_reducible refine obl1 ?_ ?_)))
      all_goals (try first | with_reducible exact True.intro | ((first | refine ob_le hj ?_ | refine ob_lei hj ?_ | refine ob_inb hj ?_ | refine ob_pos hj ?_ | refine ob_ne0 hj ?_ | refine ob_eqb hj ?_); (first | rfl | first | omega | (simp only [hj, std]; split <;> omega) | (simp (disch := omega) only [hj, std, cmpI, cmpB, satB, add64, sub64, ite0, pl0, pl2, pl3, sb0, if_true, if_false, eq_self, l1, l2, m3, m4, g1, g2, w1, w2, u0, u1, v0, v1] <;> omega) | (simp (disch := omega) [hj, std, cmpI, cmpB, satB, add64, sub64, ite0, pl0, pl2, pl3, sb0, if_true, if_false, eq_self, l1, l2, m3, m4, g1, g2, w1, w2, u0, u1, v0, v1] <;> omega))) | ((refine ob_ok hj ?_; simp only [hj, std, ite0, g1, g2, w1, w2]; first | exact .inr ⟨_, _, a1⟩ | exact .inr ⟨_, _, b1⟩ | exact ⟨_, c0⟩ | exact ⟨_, c1⟩ | exact ⟨_, d0⟩ | exact ⟨_, d1⟩)) | ((rw [hj]; exact seqE)) | ((rw [hu (by assumption)]; exact rfl)) | ((rw [hu (by omega)]; exact rfl)) | ((simp (disch := omega) only [hj, std, add64, ite0]; first | omega | exact ⟨by omega, by omega, hst2 (by omega) (by omega)⟩)))
    · have e : i.toNat = nE p := by omega
      have hpq2 : p = q := by
        rw [e, List.take_of_length_le (by omega), List.take_of_length_le (by omega)] at hQ
        exact hQ
      have hst := hst hxy hpq2
      generalize y_eC : @eC = x_eC at *
      generalize y_nE : @nE = x_nE at *
      generalize y_mC : @mC = x_mC at *
      generalize y_nM : @nM = x_nM at *
      (repeat' first | ((first | with_reducible refine tr_cut (fun h => ?_) (fun h => ?_) | refine aw_condj (by cbv) (fun h => ?_) (fun h => ?_)) <;> (try simp (disch := omega) only [hj, std, cmpI, cmpB, satB, Bool.not_eq_true, Bool.not_eq_false, decide_eq_true_eq, decide_eq_false_iff_not, beq_iff_eq, bne_iff_ne, bne_eq_false_iff_eq, beq_eq_false_iff_ne, ne_eq, reduceCtorEq, not_true_eq_false, not_false_eq_true, pl0, if_true, cmpS_eq, cmpS_neq, Bool.not_eq_eq_eq_not, Bool.not_true, Bool.not_false, Bool.not_eq_true', g1, w1, ite0, Int.ofNat_eq_natCast, add64, sub64] at h) <;> (try (exfalso; omega))) | (with_reducible refine tr_alt (fun h => ?_) ?_ <;> (try (exfalso; omega))) | (with_reducible first | refine tr_ob ?_ ?_ | refine tr_done ?_) | (refine aw_tr hj tok book0 (by cbv) ?_) | (refine aw_seq fun K hK => ?_) | (refine aw_tr1 hj tok book0 (by cbv) ?_) | (refine aw_skip ?_) | (refine aw_block ?_) | (refine aw_exit ?_) | (refine aw_ret ⟨.inr rfl, ret_okj hj (by cbv) ?_ ?_⟩) | (refine aw_ret ?_) | (with_reducible first | refine th_n ?_ | refine th_r ?_ | refine th_x ?_ | refine blk_n ?_ | refine blk_r ?_ | refine blk_x ?_ | refine blk_y rfl ?_) | (refine ⟨.inr rfl, ret_okj hj (by cbv) ?_ ?_⟩) | (refine ⟨.inl rfl, ret_okj hj (by cbv) ?_ ?_⟩) | (with_reducible refine ⟨_, by cbv, ?_, ?_⟩) | (with_reducible apply_assumption -symm -exfalso only [*]))
      all_goals ((try subst y_eC); (try subst y_nE); (try subst y_mC); (try subst y_nM))
      all_goals (try (repeat' first | with_reducible exact obl0 | (with_reducible refine obl1 ?_ ?_)))
      all_goals (try first | with_reducible exact True.intro | ((first | refine ob_le hj ?_ | refine ob_lei hj ?_ | refine ob_inb hj ?_ | refine ob_pos hj ?_ | refine ob_ne0 hj ?_ | refine ob_eqb hj ?_); (first | rfl | first | omega | (simp only [hj, std]; split <;> omega) | (simp (disch := omega) only [hj, std, cmpI, cmpB, satB, add64, sub64, ite0, pl0, pl2, pl3, sb0, if_true, if_false, eq_self, l1, l2, g1] <;> omega) | (simp (disch := omega) [hj, std, cmpI, cmpB, satB, add64, sub64, ite0, pl0, pl2, pl3, sb0, if_true, if_false, eq_self, l1, l2, g1] <;> omega))) | ((refine ob_ok hj ?_; simp only [hj, std, ite0]; first | exact .inr ⟨_, _, a1⟩)) | ((simp (disch := omega) only [hj, std, add64, ite0]; first | omega | exact ⟨by omega, by omega, hst⟩)))
  · have e : k.toNat = nM a := by omega
    have hE : R = true := hyes (by
      rw [e, List.take_of_length_le (by omega), List.take_of_length_le (by omega)] at hI
      exact hI)
    generalize y_eC : @eC = x_eC at *
    generalize y_nE : @nE = x_nE at *
    generalize y_mC : @mC = x_mC at *
    generalize y_nM : @nM = x_nM at *
    (repeat' first | ((first | with_reducible refine tr_cut (fun h => ?_) (fun h => ?_) | refine aw_condj (by cbv) (fun h => ?_) (fun h => ?_)) <;> (try simp (disch := omega) only [hj, std, cmpI, cmpB, satB, Bool.not_eq_true, Bool.not_eq_false, decide_eq_true_eq, decide_eq_false_iff_not, beq_iff_eq, bne_iff_ne, bne_eq_false_iff_eq, beq_eq_false_iff_ne, ne_eq, reduceCtorEq, not_true_eq_false, not_false_eq_true, pl0, if_true, cmpS_eq, cmpS_neq, Bool.not_eq_eq_eq_not, Bool.not_true, Bool.not_false, Bool.not_eq_true', Int.ofNat_eq_natCast, add64, sub64] at h) <;> (try (exfalso; omega))) | (with_reducible refine tr_alt (fun h => ?_) ?_ <;> (try (exfalso; omega))) | (with_reducible first | refine tr_ob ?_ ?_ | refine tr_done ?_) | (refine aw_tr hj tok book0 (by cbv) ?_) | (refine aw_seq fun K hK => ?_) | (refine aw_tr1 hj tok book0 (by cbv) ?_) | (refine aw_skip ?_) | (refine aw_block ?_) | (refine aw_exit ?_) | (refine aw_ret ⟨.inr rfl, ret_okj hj (by cbv) ?_ ?_⟩) | (refine aw_ret ?_) | (with_reducible first | refine th_n ?_ | refine th_r ?_ | refine th_x ?_ | refine blk_n ?_ | refine blk_r ?_ | refine blk_x ?_ | refine blk_y rfl ?_) | (refine ⟨.inr rfl, ret_okj hj (by cbv) ?_ ?_⟩) | (refine ⟨.inl rfl, ret_okj hj (by cbv) ?_ ?_⟩) | (with_reducible refine ⟨_, by cbv, ?_, ?_⟩) | (with_reducible apply_assumption -symm -exfalso only [*]))
    all_goals ((try subst y_eC); (try subst y_nE); (try subst y_mC); (try subst y_nM))
    all_goals (try (repeat' first | with_reducible exact obl0 | with_reducible refine obl1 ?_ ?_))
    all_goals (try first | with_reducible exact True.intro | ((first | refine ob_le hj ?_ | refine ob_lei hj ?_ | refine ob_inb hj ?_ | refine ob_pos hj ?_ | refine ob_ne0 hj ?_ | refine ob_eqb hj ?_); (first | rfl | first | omega | (simp only [hj, std]; split <;> omega) | (simp (disch := omega) only [hj, std, cmpI, cmpB, satB, add64, sub64, ite0, pl0, pl2, pl3, sb0, if_true, if_false, eq_self] <;> omega) | (simp (disch := omega) [hj, std, cmpI, cmpB, satB, add64, sub64, ite0, pl0, pl2, pl3, sb0, if_true, if_false, eq_self] <;> omega))) | ((rw [hE]; exact rfl)))
end Go.Proofs.YtcpcghnpoekhpaaDoor.A
/- Machines, the reference: Like, Least, Ordered. -/
set_option linter.unusedSimpArgs false
set_option linter.unusedVariables false
set_option maxRecDepth 100000
set_option maxHeartbeats 4000000
namespace Go.Proofs.YtcpcghnpoekhpaaDoor.A
open Go
def bookM9 (x_apC : List C → List C → Int → List C) (x_nApC : List C → List C → Int → Nat) (x_rchC : List C → List C) : Book := fun f xs => match f, xs with
 | 20, [.v false [.sl _ cs], .v false [.sl _ ds], .v false [.val (.int _ n)]] => some (ret1 (.tree sh9 (.sl (x_nApC cs ds n) (x_apC cs ds n)) none), [])
 | 19, [.v false [.sl n cs]] => some (ret1 (.own b9 n (x_rchC cs)), [])
 | _, _ => none
set_option linter.unusedVariables false
theorem apC_eq (a b : List Sta) (n : Nat) : apC (mC a) (mC b) n = mtC (apF a b n) ∧ nApC (mC a) (mC b) n = nMt (apF a b n) := by
 unfold apC nApC; rw [stsOf_mC, stsOf_mC, Int.toNat_natCast]; exact ⟨rfl, rfl⟩
def likeR (a b : List Sta) (n : Nat) : Bool := !xAt (apF a b n) 0 0
theorem pc_Like24 (a b : List Sta) (n : Nat) (cA : pc 20 [.v false [.sl (nM a) (mC a)], .v false [.sl (nM b) (mC b)], .v false [vI n]] (ret1 (.tree sh9 (.sl (nApC (mC a) (mC b) n) (apC (mC a) (mC b) n)) none))) : PC Tryd.prog T 13 [.v false [.sl (nM a) (mC a)], .v false [.sl (nM b) (mC b)], .v false [vI n]] (ret1 (.st (vB (likeR a b n)))) [] := by
 obtain ⟨e1, e2⟩ := apC_eq a b n
 have hr := apF_rect a b n
 have hR : likeR a b n = !xAt (apF a b n) 0 0 := rfl
 have hl := hr.1
 have hl0 := hr.2 0 (by omega)
 generalize likeR a b n = R at *
 generalize apF a b n = X at *
 have nv := nMt_eq X
 have lv := mtC_len X
 have hci := mtC_cell (l := X) (k := 0) (by omega)
 have w1 : gn (cellAt (mtC X) 0) = nB (rwAt X 0) := by rw [hci]; rfl
 have w2 : gc (cellAt (mtC X) 0) = bC (rwAt X 0) := by rw [hci]; rfl
 have w3 : gb (cellAt (bC (rwAt X 0)) 0) = xAt X 0 0 := gb_bC _ _
 have hoi : okK .bool (cellAt (bC (rwAt X 0)) 0) := ok_bC (by omega)
 have nri := nB_eq (rwAt X 0)
 have lri := bC_len (rwAt X 0)
 rw [← e1] at hci w1 w2 lv
 rw [← e2] at nv lv
 refine pc_of tok Tryd.func13 rfl (by rfl) ?_
 obtain ⟨j, hj⟩ : ∃ j : J, j = std Tryd.prog T := ⟨_, rfl⟩
 have hm : Tryd.prog.follows .mixedOrders = true := by kernel_rfl
 generalize y_apC : @apC = x_apC at *
 generalize y_nApC : @nApC = x_nApC at *
 generalize y_rchC : @rchC = x_rchC at *
 generalize y_likeR : @likeR = x_likeR at *
 generalize y_bC : @bC = x_bC at *
 generalize y_nB : @nB = x_nB at *
 generalize y_mC : @mC = x_mC at *
 generalize y_nM : @nM = x_nM at *
 generalize y_mtC : @mtC = x_mtC at *
 (repeat' first | ((first | with_reducible refine tr_cut (fun h => ?_) (fun h => ?_) | refine aw_condj (by cbv) (fun h => ?_) (fun h => ?_)) <;> (try simp (disch := omega) only [hj, std, cmpI, cmpB, satB, Bool.not_eq_true, Bool.not_eq_false, decide_eq_true_eq, decide_eq_false_iff_not, beq_iff_eq, bne_iff_ne, bne_eq_false_iff_eq, beq_eq_false_iff_ne, ne_eq, reduceCtorEq, not_true_eq_false, not_false_eq_true, pl0, if_true, cmpS_eq, cmpS_neq, Bool.not_eq_eq_eq_not, Bool.not_true, Bool.not_false, Bool.not_eq_true', hci, ite0, Int.ofNat_eq_natCast, Int.toNat_zero, add64, sub64] at h) <;> (try (exfalso; omega))) | (with_reducible refine tr_alt (fun h => ?_) ?_ <;> (try (exfalso; omega))) | (with_reducible first | refine tr_ob ?_ ?_ | refine tr_done ?_) | (refine aw_tr hj tok (bookM9 x_apC x_nApC x_rchC) (by cbv) ?_) | (refine aw_seq fun K hK => ?_) | (refine aw_tr1 hj tok (bookM9 x_apC x_nApC x_rchC) (by cbv) ?_) | (refine aw_skip ?_) | (refine aw_block ?_) | (refine aw_exit ?_) | (refine aw_ret ⟨.inr rfl, ret_okj hj (by cbv) ?_ ?_⟩) | (refine aw_ret ?_) | (with_reducible first | refine th_n ?_ | refine th_r ?_ | refine th_x ?_ | refine blk_n ?_ | refine blk_r ?_ | refine blk_x ?_ | refine blk_y rfl ?_) | (refine ⟨.inr rfl, ret_okj hj (by cbv) ?_ ?_⟩) | (refine ⟨.inl rfl, ret_okj hj (by cbv) ?_ ?_⟩) | (with_reducible apply_assumption -symm -exfalso only [*]))
 all_goals ((try subst y_apC); (try subst y_nApC); (try subst y_rchC); (try subst y_likeR); (try subst y_bC); (try subst y_nB); (try subst y_mC); (try subst y_nM); (try subst y_mtC))
 all_goals (try (repeat' first | with_reducible exact obl0 | with_reducible refine obl1 ?_ ?_))
 all_goals (try first | with_reducible exact True.intro | ((first | refine ob_pc hj ?_ | refine ob_pcn hj ?_); (try rw [hj]); first | exact cA) | ((first | refine ob_le hj ?_ | refine ob_lei hj ?_ | refine ob_inb hj ?_ | refine ob_pos hj ?_ | refine ob_ne0 hj ?_ | refine ob_eqb hj ?_); (first | rfl | first | omega | (simp only [hj, std]; split <;> omega) | (simp (disch := omega) only [hj, std, cmpI, cmpB, satB, add64, sub64, ite0, pl0, pl2, pl3, sb0, if_true, if_false, eq_self, lv, nv, nri, lri, hci, Int.ofNat_eq_natCast, Int.toNat_zero] <;> omega) | (simp (disch := omega) [hj, std, cmpI, cmpB, satB, add64, sub64, ite0, pl0, pl2, pl3, sb0, if_true, if_false, eq_self, lv, nv, nri, lri, hci, Int.ofNat_eq_natCast, Int.toNat_zero] <;> omega))) | ((refine ob_ok hj ?_; simp only [hj, std, ite0, Int.ofNat_eq_natCast, hci, Int.toNat_zero]; first | exact .inr ⟨_, _, rfl⟩ | exact .inr ⟨_, _, hci⟩ | exact hoi)) | ((refine r1b ?_; simp only [hj, std, ite0, Int.ofNat_eq_natCast, hci, Int.toNat_zero, w3, hR])))
/-! ### Ordered -/
def ordE : Int → List Eg → Option Int
 | nx, [] => some nx
 | nx, e :: l => if nx < e.2 then none else ordE (if e.2 = nx then nx + 1 else nx) l
def ordG : Int → Int → List Sta → Bool
 | _, _, [] => true
 | i, nx, s :: l => if 0 < i ∧ nx ≤ i then false else match ordE nx s.2 with
  | none => false
  | some nx' => ordG (i + 1) nx' l
def orderedR (m : List Sta) : Bool := ordG 0 1 m
end Go.Proofs.YtcpcghnpoekhpaaDoor.A
/- Machines, the reference: Least. -/
set_option linter.unusedSimpArgs false
set_option linter.unusedVariables false
set_option maxRecDepth 100000
set_option maxHeartbeats 4000000
namespace Go.Proofs.YtcpcghnpoekhpaaDoor.A
open Go
set_option linter.unusedVariables false
def lsI (r : List Bool) (X : List (List Bool)) (N i : Nat) : Bool := bAt r i && (decide (i = 0) || xAt X i N) && (List.range i).all fun k => xAt X i k
def leastR (m : List Sta) (n : Nat) : Bool := !(!xAt (apF m m n) 0 m.length && decide (0 < (mAt m 0).2.length)) && (List.range m.length).all fun i => lsI (reachM m) (apF m m n) m.length i
end Go.Proofs.YtcpcghnpoekhpaaDoor.A
/- Machines: the table of the program's text; what comes in. -/
set_option linter.unusedSimpArgs false
set_option linter.unusedVariables false
set_option maxRecDepth 100000
set_option maxHeartbeats 4000000
namespace Go.Proofs.YtcpcghnpoekhpaaDoor
open Go Go.RowKit
theorem mac_rep2 {w : World} {a a' : Option Addr} {len cap len' cap' : Nat} {m m' : List A.Sta} (h : A.RMac w (Value.slice a len cap).cells.toList m) (h' : A.RMac w (Value.slice a' len' cap').cells.toList m') : ∀ i (h0 : i < [A.Arg.v false [.sl (A.nM m) (A.mC m)], A.Arg.v false [.sl (A.nM m') (A.mC m')]].length) (h2 : i < [Value.slice a len cap, Value.slice a' len' cap'].length), A.ArgRep w (fun b => b < w.heap.size) (fun _ => 0) 0 [Value.slice a len cap, Value.slice a' len' cap'][i] [A.Arg.v false [.sl (A.nM m) (A.mC m)], A.Arg.v false [.sl (A.nM m') (A.mC m')]][i] := fun i h0 h2 => by
 match i, h0 with
 | 0, _ => exact ⟨_, rfl, A.mac_arg h⟩
 | 1, _ => exact ⟨_, rfl, A.mac_arg h'⟩
end Go.Proofs.YtcpcghnpoekhpaaDoor
/- Machines: the classes are those of what is told. The plain law. -/
set_option linter.unusedSimpArgs false
set_option linter.unusedVariables false
set_option maxRecDepth 100000
set_option maxHeartbeats 4000000
namespace Go.Proofs.YtcpcghnpoekhpaaDoor.A
open Go
section
variable {m : List Sta} {use : List Bool}
end
/-! ### states that tell the same are of one class -/
def Eqv (m : List Sta) (a b : Nat) : Prop := ∀ w, tellS m a w = tellS m b w
theorem sorted_ext {l l' : List (Int × Int)} (h : l.Pairwise fun a b => a.1 < b.1) (h' : l'.Pairwise fun a b => a.1 < b.1) (hm : ∀ x, x ∈ l ↔ x ∈ l') : l = l' := by
 induction l generalizing l' with
 | nil =>
  cases l' with
  | nil => rfl
  | cons y l' => exact absurd ((hm y).2 (List.mem_cons_self ..)) (by simp)
 | cons x l ih =>
  cases l' with
  | nil => exact absurd ((hm x).1 (List.mem_cons_self ..)) (by simp)
  | cons y l' =>
   obtain ⟨h1, h2⟩ := List.pairwise_cons.1 h
   obtain ⟨h3, h4⟩ := List.pairwise_cons.1 h'
   have e : x = y := by
    rcases List.mem_cons.1 ((hm x).1 (List.mem_cons_self ..)) with q | q
    ·exact q
    ·rcases List.mem_cons.1 ((hm y).2 (List.mem_cons_self ..)) with r | r
     ·exact r.symm
     ·have := h3 x q; have := h1 y r; omega
   subst e
   rw [ih h2 h4 fun z => ?_]
   have hz := hm z
   rw [List.mem_cons, List.mem_cons] at hz
   constructor
   ·intro q
    rcases hz.1 (.inr q) with r | r
    ·subst r; exact absurd (h1 z q) (by omega)
    ·exact r
   ·intro q
    rcases hz.2 (.inr q) with r | r
    ·subst r; exact absurd (h3 z q) (by omega)
    ·exact r
theorem sgP_sorted (use : List Bool) (out : List Int) : ∀ (l : List Eg), (l.Pairwise fun a b => a.1 < b.1) → (sgP use out l).Pairwise fun a b => a.1 < b.1
 | [], _ => List.Pairwise.nil
 | e :: l, h => by
  obtain ⟨h1, h2⟩ := List.pairwise_cons.1 h
  have ih := sgP_sorted use out l h2
  unfold sgP at ih ⊢
  rw [List.filterMap_cons]
  by_cases hu : bAt use e.2.toNat = true
  ·rw [if_pos hu]
   refine List.pairwise_cons.2 ⟨fun x hx => ?_, ih⟩
   obtain ⟨e2, he2, hx2⟩ := List.mem_filterMap.1 hx
   split at hx2
   ·cases hx2; exact h1 e2 he2
   ·cases hx2
  ·rw [if_neg hu]; exact ih
theorem sgP_eqv {m : List Sta} (hv : Vm 6 m) {o : List Int} (hI : ∀ a b, a < m.length → b < m.length → bAt (useM m) a = true → bAt (useM m) b = true → Eqv m a b → iAt o a = iAt o b) {a b : Nat} (ha : a < m.length) (hb : b < m.length) (ua : bAt (useM m) a = true) (ub : bAt (useM m) b = true) (h : Eqv m a b) : sgP (useM m) o (mAt m a).2 = sgP (useM m) o (mAt m b).2 := by
 have half : ∀ a b, a < m.length → b < m.length → bAt (useM m) a = true → bAt (useM m) b = true → Eqv m a b → ∀ x, x ∈ sgP (useM m) o (mAt m a).2 → x ∈ sgP (useM m) o (mAt m b).2 := by
  intro a b ha hb ua ub h x hx
  obtain ⟨e, he, hu, rfl⟩ := sgP_mem.1 hx
  have hr := hv.edge a ha e he
  have hea : goM m a e.1 = e.2 := hv.go ha he
  have hln : e.2.toNat < m.length := by omega
  obtain ⟨w, hw⟩ := ((use_iff hv hln).1 hu).2
  have ecast : ((e.2.toNat : Nat) : Int) = e.2 := by omega
  rw [ecast] at hw
  have h1 : tellS m a (e.1 :: w) ≠ -1 := by rw [tell_cons, hea]; exact hw
  rw [h] at h1
  have h2 := tells_go h1
  have h3 := go_mem hb h2
  have h4 := hv.edge b hb _ h3
  dsimp only at h4
  have hjn : (goM m b e.1).toNat < m.length := by omega
  have ejc : (((goM m b e.1).toNat : Nat) : Int) = goM m b e.1 := by omega
  have hu2 : bAt (useM m) (goM m b e.1).toNat = true := (use_iff hv hjn).2 ⟨rc_go hb ((use_iff hv hb).1 ub).1 h2, w, by rw [ejc]; rw [tell_cons] at h1; exact h1⟩
  have hq : Eqv m e.2.toNat (goM m b e.1).toNat := fun v => by
   have := h (e.1 :: v)
   rw [tell_cons, tell_cons, hea] at this
   rw [ecast, ejc]; exact this
  exact sgP_mem.2 ⟨_, h3, hu2, by rw [hI _ _ hln hjn hu hu2 hq]⟩
 refine sorted_ext (sgP_sorted _ _ _ (hv.rise a ha)) (sgP_sorted _ _ _ (hv.rise b hb)) fun x => ⟨half a b ha hb ua ub h x, half b a hb ha ub ua (fun w => (h w).symm) x⟩
theorem cls_eqv {m : List Sta} (hv : Vm 6 m) {o : List Int} (hI : ∀ a b, a < m.length → b < m.length → bAt (useM m) a = true → bAt (useM m) b = true → Eqv m a b → iAt o a = iAt o b) {a b : Nat} (ha : a < m.length) (hb : b < m.length) (ua : bAt (useM m) a = true) (ub : bAt (useM m) b = true) (h : Eqv m a b) : iAt (clsL m (useM m) o) a = iAt (clsL m (useM m) o) b := by
 have h0 := h []
 have h0 : outM m a = outM m b := h0
 rw [Vm.out_at ha, Vm.out_at hb] at h0
 rw [cls_at ha, cls_at hb, if_pos ua, if_pos ub, sgB_iff.2 ⟨hI a b ha hb ua ub h, h0, sgP_eqv hv hI ha hb ua ub h⟩]
theorem clGo_eqv {m : List Sta} (hv : Vm 6 m) : ∀ (f : Nat) (o : List Int) (cnt : Int), (∀ a b, a < m.length → b < m.length → bAt (useM m) a = true → bAt (useM m) b = true → Eqv m a b → iAt o a = iAt o b) → ∀ a b, a < m.length → b < m.length → bAt (useM m) a = true → bAt (useM m) b = true → Eqv m a b → iAt (clGo m (useM m) f o cnt) a = iAt (clGo m (useM m) f o cnt) b
 | 0, o, _, hI, a, b, ha, hb, ua, ub, h => cls_eqv hv hI ha hb ua ub h
 | f + 1, o, cnt, hI, a, b, ha, hb, ua, ub, h => by
  rw [clGo]
  split
  ·exact cls_eqv hv hI ha hb ua ub h
  ·exact clGo_eqv hv f _ _ (fun a b ha hb ua ub h => cls_eqv hv hI ha hb ua ub h) a b ha hb ua ub h
theorem clF_eqv {m : List Sta} (hv : Vm 6 m) {a b : Nat} (ha : a < m.length) (hb : b < m.length) (ua : bAt (useM m) a = true) (ub : bAt (useM m) b = true) : iAt (clF m (useM m)) a = iAt (clF m (useM m)) b ↔ Eqv m a b := by
 constructor
 ·intro h
  have key : ∀ (w : List Int) (a b : Nat), a < m.length → b < m.length → bAt (useM m) a = true → bAt (useM m) b = true → iAt (clF m (useM m)) a = iAt (clF m (useM m)) b → tellS m a w = tellS m b w := by
   intro w
   induction w with
   | nil =>
    intro a b ha hb ua ub h
    have h1 := sgB_iff.1 ((clF_same ha hb ua ub).1 h)
    show outM m a = outM m b
    rw [Vm.out_at ha, Vm.out_at hb]; exact h1.2.1
   | cons c w ih =>
    -- whoever goes somewhere that tells something: the other one goes to the same class
    have half : ∀ a b : Nat, a < m.length → b < m.length → bAt (useM m) a = true → bAt (useM m) b = true → iAt (clF m (useM m)) a = iAt (clF m (useM m)) b → tellS m a (c :: w) ≠ -1 → tellS m a (c :: w) = tellS m b (c :: w) := by
     intro a b ha hb ua ub h h0
     have h1 := sgB_iff.1 ((clF_same ha hb ua ub).1 h)
     have g1 := tells_go h0
     have g2 := go_mem ha g1
     have g3 := hv.edge a ha _ g2
     dsimp only at g3
     have hjn : (goM m a c).toNat < m.length := by omega
     have ejc : (((goM m a c).toNat : Nat) : Int) = goM m a c := by omega
     have hu : bAt (useM m) (goM m a c).toNat = true := (use_iff hv hjn).2 ⟨rc_go ha ((use_iff hv ha).1 ua).1 g1, w, by rw [ejc]; rw [tell_cons] at h0; exact h0⟩
     have hm : (c, iAt (clF m (useM m)) (goM m a c).toNat) ∈ sgP (useM m) (clF m (useM m)) (mAt m a).2 := sgP_mem.2 ⟨_, g2, hu, rfl⟩
     rw [h1.2.2] at hm
     obtain ⟨e, he, hue, hx⟩ := sgP_mem.1 hm
     have hx1 : c = e.1 := congrArg Prod.fst hx
     have hx2 : iAt (clF m (useM m)) (goM m a c).toNat = iAt (clF m (useM m)) e.2.toNat := congrArg Prod.snd hx
     have her := hv.edge b hb e he
     have heb : goM m b c = e.2 := by rw [hx1]; exact hv.go hb he
     have := ih _ _ hjn (by omega : e.2.toNat < m.length) hu hue hx2
     rw [ejc, show ((e.2.toNat : Nat) : Int) = e.2 by omega] at this
     rw [tell_cons, tell_cons, heb]; exact this
    intro a b ha hb ua ub h
    by_cases h0 : tellS m a (c :: w) = -1
    ·by_cases h1 : tellS m b (c :: w) = -1
     ·rw [h0, h1]
     ·exact (half b a hb ha ub ua h.symm h1).symm
    ·exact half a b ha hb ua ub h h0
  exact fun w => key w a b ha hb ua ub h
 ·intro h
  refine clGo_eqv hv _ _ _ (fun a b ha hb _ _ _ => ?_) a b ha hb ua ub h
  have e : ∀ k, k < m.length → iAt (List.replicate m.length (-1 : Int)) k = -1 := fun k hk => by
   show (List.replicate m.length (-1 : Int)).getD k 0 = _
   rw [List.getD_eq_getElem?_getD, List.getElem?_replicate, if_pos hk]; rfl
  rw [e a ha, e b hb]
end Go.Proofs.YtcpcghnpoekhpaaDoor.A
/- Machines: the least machine tells the same; what it is like. The plain law. -/
set_option linter.unusedSimpArgs false
set_option linter.unusedVariables false
set_option maxRecDepth 100000
set_option maxHeartbeats 4000000
namespace Go.Proofs.YtcpcghnpoekhpaaDoor.A
open Go
section
variable {m : List Sta} {U : List Bool} {K Q : List Int}
end
section
variable {m x : List Sta} {Q : List Int}
end
theorem like_iff {a b : List Sta} {n : Nat} (ha : Vm n a) (hb : Vm n b) : likeR a b n = true ↔ ∀ w, tellS a 0 w = tellS b 0 w := by
 unfold likeR
 rw [Bool.not_eq_true', Bool.eq_false_iff, ne_eq, apF_iff (by omega) (by omega)]
 constructor
 ·intro h w
  apply Classical.byContradiction
  intro hne
  refine h ⟨w, ?_, hne⟩
  by_cases h1 : tellS a 0 w = -1
  ·exact tl_letters hb w _ (fun h2 => hne (h1.trans h2.symm))
  ·exact tl_letters ha w _ h1
 ·rintro h ⟨w, _, hne⟩
  exact hne (h w)
end Go.Proofs.YtcpcghnpoekhpaaDoor.A
/- MiniSame: the law's walk. -/
set_option linter.unusedSimpArgs false
set_option linter.unusedVariables false
set_option maxRecDepth 100000
set_option maxHeartbeats 4000000
namespace Go.Proofs.YtcpcghnpoekhpaaDoor.A
open Go
set_option linter.unusedVariables false
def l24C (cs ds : List C) (n : Int) : Bool := likeR (stsOf cs) (stsOf ds) n.toNat
theorem c_Like24 {a b : List Sta} (cA : CApart a b 6) : pc 13 [.v false [.sl (nM a) (mC a)], .v false [.sl (nM b) (mC b)], .v false [vI 6]] (ret1 (.st (vB (l24C (mC a) (mC b) 6)))) := by
 refine ⟨enters Tryd.func13 (by kernel_rfl) (by kernel_rfl), ?_⟩
 have e : l24C (mC a) (mC b) 6 = likeR a b 6 := by unfold l24C; rw [stsOf_mC, stsOf_mC]; rfl
 rw [e]
 exact pc_Like24 a b 6 cA
end Go.Proofs.YtcpcghnpoekhpaaDoor.A
/- Machines: the least machine is least and in order; there is but one. The plain law. -/
set_option linter.unusedSimpArgs false
set_option linter.unusedVariables false
set_option maxRecDepth 100000
set_option maxHeartbeats 4000000
namespace Go.Proofs.YtcpcghnpoekhpaaDoor.A
open Go
theorem ord_row (U : List Bool) (K : List Int) : ∀ (l : List Eg) (st : List Int × List Eg) (Q u : List Int), Q = (l.foldl (mkStep U K) st).1 ++ u → ordE st.1.length (rowQ U K Q l) = some (((l.foldl (mkStep U K) st).1.length : Nat) : Int)
 | [], st, Q, u, _ => rfl
 | e :: l, st, Q, u, hQ => by
  rw [List.foldl_cons] at hQ ⊢
  have ih := ord_row U K l (mkStep U K st e) Q u hQ
  obtain ⟨t, h1, _, _, _⟩ := mkFold_spec U K l (mkStep U K st e)
  rw [h1] at hQ
  by_cases hu : bAt U e.2.toNat = true
  ·have e0 : rowQ U K Q (e :: l) = (e.1, (ixL (kyC K Q) (iAt K e.2.toNat) : Int)) :: rowQ U K Q l := by unfold rowQ; rw [List.filterMap_cons, if_pos hu]
   rw [e0]
   by_cases hin : inL (kyC K st.1) (iAt K e.2.toNat) = true
   ·have es : (mkStep U K st e).1 = st.1 := by unfold mkStep; rw [if_pos hu, if_pos hin]
    rw [es] at hQ ih
    have e9 : ixL (kyC K Q) (iAt K e.2.toNat) = ixL (kyC K st.1) (iAt K e.2.toNat) := by rw [hQ, List.append_assoc, kyC_app]; exact ixL_appL hin
    have hl := ixL_lt hin
    rw [kyC_len] at hl
    rw [e9, ordE]
    dsimp only
    rw [if_neg (by omega), if_neg (by omega)]
    exact ih
   ·have hin' : inL (kyC K st.1) (iAt K e.2.toNat) = false := by simpa using hin
    have es : (mkStep U K st e).1 = st.1 ++ [e.2] := by unfold mkStep; rw [if_pos hu, if_neg hin]
    rw [es] at hQ ih
    have hk : inL (kyC K (st.1 ++ [e.2])) (iAt K e.2.toNat) = true := by rw [kyC_app]; exact inL_iff.2 (List.mem_append_right _ (by simp [kyC]))
    have e9 : ixL (kyC K Q) (iAt K e.2.toNat) = st.1.length := by
     rw [hQ, List.append_assoc, kyC_app, ixL_appL hk, kyC_app]
     show ixL (kyC K st.1 ++ [iAt K e.2.toNat]) _ = _
     rw [ixL_app2 hin']; simp [kyC]
    rw [e9, ordE]
    dsimp only
    rw [if_neg (by omega), if_pos rfl]
    have el : (((st.1 ++ [e.2]).length : Nat) : Int) = (st.1.length : Int) + 1 := by rw [List.length_append]; rfl
    rw [el] at ih
    exact ih
  ·have es : mkStep U K st e = st := by unfold mkStep; rw [if_neg hu]
   have e0 : rowQ U K Q (e :: l) = rowQ U K Q l := by unfold rowQ; rw [List.filterMap_cons, if_neg hu]
   rw [es] at ih ⊢
   rw [e0]; exact ih
theorem mkGo_ord {m : List Sta} {use : List Bool} {cls : List Int} (hv : Vm 6 m) : ∀ (f i : Nat) (q : List Int) (out : List Sta), QOk m.length cls q → i ≤ q.length → m.length < f + i →
  ∃ t, mkGo m use cls f i q out = out ++ mkAll m use cls (q ++ t) i (q ++ t).length ∧ ordG i q.length (mkAll m use cls (q ++ t) i (q ++ t).length) = true
 | 0, i, q, out, hq, hi, hf => by have := hq.len; omega
 | f + 1, i, q, out, hq, hi, hf => by
  rw [mkGo]
  by_cases h : i < q.length
  ·rw [if_pos h]
   have h1 := hq.lt _ (iAt_mem h)
   have hk : (iAt q i).toNat < m.length := by omega
   obtain ⟨t, e1, e2, e3, e4⟩ := mkFold_spec use cls (mAt m (iAt q i).toNat).2 (q, [])
   have hfold : ((mAt m (iAt q i).toNat).2.foldl (mkStep use cls) (q, [])).1 = q ++ t := e1
   have e1 : (mkRow m use cls q (iAt q i).toNat).1 = q ++ t := e1
   have hq2 : QOk m.length cls (q ++ t) := by
    have := mkFold_ok (use := use) (cls := cls) (n := m.length) (mAt m (iAt q i).toNat).2 (q, []) (fun e he => by have := hv.edge _ hk e he; omega) hq
    rw [← e1]; exact this
   rw [e1]
   obtain ⟨u, g2, g3⟩ := mkGo_ord hv f (i + 1) (q ++ t) (out ++ [((mAt m (iAt q i).toNat).1, (mkRow m use cls q (iAt q i).toNat).2)]) hq2 (by rw [List.length_append]; omega) (by omega)
   have eQ : q ++ t ++ u = q ++ (t ++ u) := List.append_assoc ..
   have e5 : (mkRow m use cls q (iAt q i).toNat).2 = rowQ use cls (q ++ t ++ u) (mAt m (iAt q i).toNat).2 := by
    have := e4 (q ++ t ++ u) u rfl
    rw [List.nil_append] at this
    exact this
   have ho := ord_row use cls (mAt m (iAt q i).toNat).2 (q, []) (q ++ t ++ u) u (by rw [hfold])
   rw [hfold] at ho
   rw [eQ] at g2 g3 e5 ho
   have e7 : mkAll m use cls (q ++ (t ++ u)) i (q ++ (t ++ u)).length = ((mAt m (iAt q i).toNat).1, rowQ use cls (q ++ (t ++ u)) (mAt m (iAt q i).toNat).2) :: mkAll m use cls (q ++ (t ++ u)) (i + 1) (q ++ (t ++ u)).length := by
    unfold mkAll
    have e6 : (q ++ (t ++ u)).length - i = ((q ++ (t ++ u)).length - (i + 1)) + 1 := by rw [List.length_append]; omega
    rw [e6, List.range'_succ, List.map_cons, iAt_app h]
   refine ⟨t ++ u, ?_, ?_⟩
   ·rw [g2, e5, List.append_assoc, e7]; rfl
   ·rw [e7, ordG, if_neg (by omega)]
    dsimp only
    have ho : ordE (q.length : Int) (rowQ use cls (q ++ (t ++ u)) (mAt m (iAt q i).toNat).2) = some (((q ++ t).length : Nat) : Int) := ho
    rw [ho]
    exact g3
  ·rw [if_neg h]
   obtain rfl : i = q.length := by omega
   refine ⟨[], ?_, ?_⟩
   ·unfold mkAll; rw [List.append_nil, Nat.sub_self]; simp
   ·unfold mkAll; rw [List.append_nil, Nat.sub_self]; rfl
theorem make_ord {m : List Sta} (hv : Vm 6 m) : orderedR (makeM m) = true := by
 have hp := hv.pos
 rcases Bool.eq_false_or_eq_true (bAt (useM m) 0) with h0 | h0
 ·unfold makeM
  rw [if_pos h0]
  obtain ⟨t, g1, g2⟩ := mkGo_ord (use := useM m) (cls := clF m (useM m)) hv (m.length + 1) 0 [0] [] ⟨by simp [kyC], fun s hs => by rw [List.mem_singleton.1 hs]; omega⟩ (Nat.zero_le _) (by omega)
  rw [g1]
  exact g2
 ·rw [makeM_none h0]; rfl
structure MinM (x : List Sta) : Prop where
 v : Vm 6 x
 rc : ∀ k, k < x.length → Rc x k
 tl : ∀ k, 1 ≤ k → k < x.length → Tl x k
 z : Tl x 0 ∨ (mAt x 0).2 = []
 ap : ∀ i k, i < x.length → k < x.length → Eqv x i k → i = k
 ord : orderedR x = true
theorem nodup_ix {l : List Int} (h : l.Nodup) {i k : Nat} (hi : i < l.length) (hk : k < l.length) (e : l[i] = l[k]) : i = k := by
 have hp := List.pairwise_iff_getElem.1 h
 rcases Nat.lt_trichotomy i k with h1 | h1 | h1
 ·exact absurd e (hp i k hi hk h1)
 ·exact h1
 ·exact absurd e.symm (hp k i hk hi h1)
theorem MkOk.cls_inj {m x : List Sta} {Q : List Int} (h : MkOk m x Q) {i k : Nat} (hi : i < Q.length) (hk : k < Q.length) (e : iAt (clF m (useM m)) (iAt Q i).toNat = iAt (clF m (useM m)) (iAt Q k).toNat) : i = k := by
 refine nodup_ix h.qe.ok.nd (by rw [kyC_len]; exact hi) (by rw [kyC_len]; exact hk) ?_
 rw [kyC_at hi, kyC_at hk]; exact e
theorem min_make {m : List Sta} (hv : Vm 6 m) : MinM (makeM m) := by
 have hord := make_ord hv
 rcases Bool.eq_false_or_eq_true (bAt (useM m) 0) with h0 | h0
 ·obtain ⟨Q, h⟩ := mkOk_of hv h0
  have hvx := h.vm hv
  have htl : ∀ k, k < Q.length → Tl (makeM m) k := fun k hk => by
   obtain ⟨w, hw⟩ := ((use_iff hv (h.lt hk).1).1 (h.us hk)).2
   refine ⟨w, ?_⟩
   rw [← h.tell hv hk, ← (h.lt hk).2]; exact hw
  refine ⟨hvx, ?_, fun k _ hk => htl k (by rw [h.len] at hk; exact hk), .inl (htl 0 h.pos), fun i k hi hk he => ?_, hord⟩
  ·intro k
   induction k using Nat.strongRecOn with
   | ind k ih =>
    intro hk
    rw [h.len] at hk
    rcases Nat.eq_zero_or_pos k with h1 | h1
    ·subst h1; exact .zero
    ·obtain ⟨p, hp, e, he, hek⟩ := h.prev k h1 hk
     have hpQ : p < Q.length := by omega
     have hu : bAt (useM m) e.2.toNat = true := by rw [hek]; exact h.us hk
     obtain ⟨i1, i2⟩ := h.ix hpQ he hu
     have hix : ixL (kyC (clF m (useM m)) Q) (iAt (clF m (useM m)) e.2.toNat) = k := h.cls_inj i1 hk (by rw [i2, hek])
     have hm : (e.1, (ixL (kyC (clF m (useM m)) Q) (iAt (clF m (useM m)) e.2.toNat) : Int)) ∈ (mAt (makeM m) p).2 := by
      rw [h.at_ p hpQ]; exact rowQ_mem.2 ⟨e, he, hu, rfl⟩
     have := Rc.step (ih p hp (by rw [h.len]; exact hpQ)) (by rw [h.len]; exact hpQ) hm
     dsimp only at this
     rwa [hix, Int.toNat_natCast] at this
  ·rw [h.len] at hi hk
   refine h.cls_inj hi hk ((clF_eqv hv (h.lt hi).1 (h.lt hk).1 (h.us hi) (h.us hk)).2 fun w => ?_)
   rw [(h.lt hi).2, (h.lt hk).2, h.tell hv hi, h.tell hv hk]
   exact he w
 ·have e := makeM_none h0
  rw [e] at hord ⊢
  exact ⟨vm_none, fun k hk => by
   have : k = 0 := by have : k < 1 := hk; omega
   subst this; exact .zero, fun k h1 hk => absurd hk (by show ¬ k < 1; omega), .inr rfl, fun i k hi hk _ => by have : i < 1 := hi; have : k < 1 := hk; omega, hord⟩
end Go.Proofs.YtcpcghnpoekhpaaDoor.A
/- Machines: two least machines in order that tell the same are one. The plain law. -/
set_option linter.unusedSimpArgs false
set_option linter.unusedVariables false
set_option maxRecDepth 100000
set_option maxHeartbeats 4000000
namespace Go.Proofs.YtcpcghnpoekhpaaDoor.A
open Go
theorem MinM.tgt {x : List Sta} (h : MinM x) {i : Nat} (hi : i < x.length) {e : Eg} (he : e ∈ (mAt x i).2) : Tl x e.2.toNat := by
 have hr := h.v.edge i hi e he
 rcases Nat.eq_zero_or_pos e.2.toNat with h0 | h0
 ·rcases h.z with hz | hz
  ·rw [h0]; exact hz
  ·exfalso
   have key : ∀ k, Rc x k → k = 0 := by
    intro k hk
    induction hk with
    | zero => rfl
    | step _ _ he2 ih =>
     rw [ih, hz] at he2
     cases he2
   have := key i (h.rc i hi)
   rw [this, hz] at he
   cases he
 ·exact h.tl _ h0 (by omega)
section
variable {a b : List Sta}
theorem terms_half (ha : MinM a) {i : Nat} (hia : i < a.length) (hib : i < b.length) (R : ∀ w, tellS a i w = tellS b i w) {t : Int} (h : ∃ e ∈ (mAt a i).2, e.1 = t) : ∃ e ∈ (mAt b i).2, e.1 = t := by
 obtain ⟨e, he, rfl⟩ := h
 obtain ⟨w, hw⟩ := ha.tgt hia he
 have hr := ha.v.edge i hia e he
 rw [show ((e.2.toNat : Nat) : Int) = e.2 by omega] at hw
 have h1 : tellS a i (e.1 :: w) ≠ -1 := by rw [tell_cons, ha.v.go hia he]; exact hw
 rw [R] at h1
 exact ⟨_, go_mem hib (tells_go h1), rfl⟩
theorem terms_eq (ha : MinM a) (hb : MinM b) {i : Nat} (hia : i < a.length) (hib : i < b.length) (R : ∀ w, tellS a i w = tellS b i w) : (mAt a i).2.map Prod.fst = (mAt b i).2.map Prod.fst := by
 have hs : ∀ l : List Eg, (l.Pairwise fun x y => x.1 < y.1) → (l.map fun e : Eg => ((e.1, 0) : Int × Int)).Pairwise fun x y => x.1 < y.1 := fun l h => List.pairwise_map.2 h
 have e := sorted_ext (hs _ (ha.v.rise i hia)) (hs _ (hb.v.rise i hib)) fun x => by
  rw [List.mem_map, List.mem_map]
  constructor
  ·rintro ⟨e, he, rfl⟩
   obtain ⟨f, hf, h⟩ := terms_half ha hia hib R ⟨e, he, rfl⟩
   exact ⟨f, hf, by rw [h]⟩
  ·rintro ⟨e, he, rfl⟩
   obtain ⟨f, hf, h⟩ := terms_half hb hib hia (fun w => (R w).symm) ⟨e, he, rfl⟩
   exact ⟨f, hf, by rw [h]⟩
 have := congrArg (List.map Prod.fst) e
 rw [List.map_map, List.map_map] at this
 exact this
theorem row_one (ha : MinM a) (hb : MinM b) {i : Nat} (R : ∀ w, tellS a i w = tellS b i w) : ∀ (la lb : List Eg) (N : Nat) (n1 n2 : Int), la.map Prod.fst = lb.map Prod.fst → (∀ e ∈ la, goM a i e.1 = e.2 ∧ 0 ≤ e.2 ∧ e.2 < a.length) → (∀ e ∈ lb, goM b i e.1 = e.2 ∧ 0 ≤ e.2 ∧ e.2 < b.length) → N ≤ a.length → N ≤ b.length → (∀ j : Nat, j < N → ∀ w, tellS a j w = tellS b j w) → ordE N la = some n1 → ordE N lb = some n2 →
  la = lb ∧ n1 = n2 ∧ ∃ M : Nat, n1 = M ∧ N ≤ M ∧ M ≤ a.length ∧ M ≤ b.length ∧ ∀ j : Nat, j < M → ∀ w, tellS a j w = tellS b j w
 | [], [], N, n1, n2, _, _, _, h1, h2, hR, e1, e2 => by
  have e1 := Option.some.inj e1
  have e2 := Option.some.inj e2
  exact ⟨rfl, e1.symm.trans e2, N, e1.symm, Nat.le_refl _, h1, h2, hR⟩
 | [], _ :: _, _, _, _, h, _, _, _, _, _, _, _ => by cases h
 | _ :: _, [], _, _, _, h, _, _, _, _, _, _, _ => by cases h
 | e :: la, f :: lb, N, n1, n2, ht, hA, hB, h1, h2, hR, e1, e2 => by
  rw [List.map_cons, List.map_cons] at ht
  obtain ⟨ht1, ht2⟩ := List.cons.inj ht
  obtain ⟨a1, a2, a3⟩ := hA e (List.mem_cons_self ..)
  obtain ⟨b1, b2, b3⟩ := hB f (List.mem_cons_self ..)
  have hT : ∀ w, tellS a e.2 w = tellS b f.2 w := fun w => by
   have := R (e.1 :: w)
   rw [tell_cons, tell_cons, a1, ht1, b1] at this
   exact this
  have ea : ((e.2.toNat : Nat) : Int) = e.2 := by omega
  have eb : ((f.2.toNat : Nat) : Int) = f.2 := by omega
  rw [ordE] at e1 e2
  by_cases c1 : (N : Int) < e.2
  ·rw [if_pos c1] at e1; cases e1
  by_cases c2 : (N : Int) < f.2
  ·rw [if_pos c2] at e2; cases e2
  rw [if_neg c1] at e1
  rw [if_neg c2] at e2
  by_cases d1 : e.2 = (N : Int)
  ·have d2 : f.2 = (N : Int) := by
    apply Classical.byContradiction
    intro hne
    have hq : Eqv a f.2.toNat e.2.toNat := fun w => by
     rw [hR f.2.toNat (by omega) w, eb, ea, hT]
    have := ha.ap _ _ (by omega) (by omega) hq
    omega
   rw [if_pos d1] at e1
   rw [if_pos d2] at e2
   have hR2 : ∀ j : Nat, j < N + 1 → ∀ w, tellS a j w = tellS b j w := fun j hj w => by
    rcases Nat.lt_or_ge j N with h | h
    ·exact hR j h w
    ·obtain rfl : j = N := by omega
     have := hT w
     rw [d1, d2] at this
     exact this
   obtain ⟨g1, g2, M, g3, g4, g5, g6, g7⟩ := row_one ha hb R la lb (N + 1) n1 n2 ht2 (fun x hx => hA x (List.mem_cons_of_mem _ hx)) (fun x hx => hB x (List.mem_cons_of_mem _ hx)) (by omega) (by omega) hR2 e1 e2
   exact ⟨by rw [g1, show e = f from Prod.ext ht1 (d1.trans d2.symm)], g2, M, g3, by omega, g5, g6, g7⟩
  ·have d2 : e.2 = f.2 := by
    have hq : Eqv b e.2.toNat f.2.toNat := fun w => by
     rw [← hR e.2.toNat (by omega) w, eb, ea, hT]
    have := hb.ap _ _ (by omega) (by omega) hq
    omega
   rw [if_neg d1] at e1
   rw [← d2, if_neg d1] at e2
   obtain ⟨g1, g2, g3⟩ := row_one ha hb R la lb N n1 n2 ht2 (fun x hx => hA x (List.mem_cons_of_mem _ hx)) (fun x hx => hB x (List.mem_cons_of_mem _ hx)) h1 h2 hR e1 e2
   exact ⟨by rw [g1, show e = f from Prod.ext ht1 d2], g2, g3⟩
theorem ordG_cons {i nx : Int} {s : Sta} {l : List Sta} (h : ordG i nx (s :: l) = true) : ¬ (0 < i ∧ nx ≤ i) ∧ ∃ n, ordE nx s.2 = some n ∧ ordG (i + 1) n l = true := by
 rw [ordG] at h
 split at h
 ·cases h
 ·rename_i h1
  refine ⟨h1, ?_⟩
  split at h
  ·cases h
  ·rename_i n hn; exact ⟨n, hn, h⟩
theorem scan_one (ha : MinM a) (hb : MinM b) : ∀ (d i N : Nat), a.length - i ≤ d → i ≤ a.length → i ≤ b.length → 0 < N → N ≤ a.length → N ≤ b.length → (∀ j : Nat, j < N → ∀ w, tellS a j w = tellS b j w) → ordG i N (a.drop i) = true → ordG i N (b.drop i) = true → a.drop i = b.drop i := by
 intro d
 have hpa := ha.v.pos
 have hpb := hb.v.pos
 -- whoever has a state at i has met it
 have stop : ∀ {x : List Sta} {i N : Nat}, i < x.length → ordG i N (x.drop i) = true → 0 < N → i < N := fun {x i N} hi h hN => by
  rw [drop_st hi] at h
  have := (ordG_cons h).1
  omega
 induction d with
 | zero =>
  intro i N hd hia hib hN h1 h2 hR oa ob
  have e : i = a.length := by omega
  have e2 : i = b.length := by
   rcases Nat.lt_or_ge i b.length with h | h
   ·have := stop h ob hN; omega
   ·omega
  rw [List.drop_eq_nil_of_le (by omega), List.drop_eq_nil_of_le (by omega)]
 | succ d ih =>
  intro i N hd hia hib hN h1 h2 hR oa ob
  rcases Nat.lt_or_ge i a.length with ha2 | ha2
  ·have hiN := stop ha2 oa hN
   have hb2 : i < b.length := by omega
   rw [drop_st ha2] at oa ⊢
   rw [drop_st hb2] at ob ⊢
   obtain ⟨_, n1, p1, p2⟩ := ordG_cons oa
   obtain ⟨_, n2, r1, r2⟩ := ordG_cons ob
   have R := hR i hiN
   obtain ⟨g1, g2, M, g3, g4, g5, g6, g7⟩ := row_one ha hb R _ _ N n1 n2 (terms_eq ha hb ha2 hb2 R) (fun e he => ⟨ha.v.go ha2 he, by have := ha.v.edge i ha2 e he; omega⟩) (fun e he => ⟨hb.v.go hb2 he, by have := hb.v.edge i hb2 e he; omega⟩) h1 h2 hR p1 r1
   have ho : (mAt a i).1 = (mAt b i).1 := by
    have := R []
    have : outM a i = outM b i := this
    rwa [Vm.out_at ha2, Vm.out_at hb2] at this
   subst g2
   rw [g3] at p2 r2
   rw [ih (i + 1) M (by omega) (by omega) (by omega) (by omega) g5 g6 g7 p2 r2, show mAt a i = mAt b i from Prod.ext ho g1]
  ·have e2 : i = b.length := by
    rcases Nat.lt_or_ge i b.length with h | h
    ·have := stop h ob hN; omega
    ·omega
   rw [List.drop_eq_nil_of_le (by omega), List.drop_eq_nil_of_le (by omega)]
theorem min_one (ha : MinM a) (hb : MinM b) (h : ∀ w, tellS a 0 w = tellS b 0 w) : a = b := by
  have hpa := ha.v.pos
  have hpb := hb.v.pos
  have := scan_one ha hb a.length 0 1 (by omega) (by omega) (by omega) (by omega) (by omega) (by omega) (fun j hj w => by
    obtain rfl : j = 0 := by omega
    exact h w) ha.ord hb.ord
  exact this
end
theorem make_one {a b : List Sta} (ha : Vm 6 a) (hb : Vm 6 b) : makeM a = makeM b ↔ ∀ w, tellS a 0 w = tellS b 0 w := by
 have h1 := (make_like ha).2
 have h2 := (make_like hb).2
 constructor
 ·intro h w; rw [h1, h2, h]
 ·intro h
  exact min_one (min_make ha) (min_make hb) fun w => by rw [← h1, ← h2, h]
end Go.Proofs.YtcpcghnpoekhpaaDoor.A
/- MiniLeast and MiniOne: the laws' walks. -/
set_option linter.unusedSimpArgs false
set_option linter.unusedVariables false
set_option maxRecDepth 100000
set_option maxHeartbeats 4000000
namespace Go.Proofs.YtcpcghnpoekhpaaDoor.A
open Go
set_option linter.unusedVariables false
def lsC (cs : List C) (n : Int) : Bool := leastR (stsOf cs) n.toNat
def odC (cs : List C) : Bool := orderedR (stsOf cs)
theorem c_Same24 (a b : List Sta) (ha : SzM a) (hb : SzM b) : pc 16 [.v false [.sl (nM a) (mC a)], .v false [.sl (nM b) (mC b)]] (ret1 (.st (vB (sameC (mC a) (mC b))))) := by
 refine ⟨enters Tryd.func16 (by kernel_rfl) (by kernel_rfl), ?_⟩
 unfold sameC; rw [stsOf_mC, stsOf_mC]; exact pc_Same24 a b ha hb
def bookMH (x_lsC : List C → Int → Bool) (x_sameC : List C → List C → Bool) (x_odC : List C → Bool) (x_fitC : List C → Bool) (x_mkC : List C → List C) (x_mkN : List C → Nat) (x_isC : List C → Bool) (x_lkC : List C → List C → Bool) (x_l24C : List C → List C → Int → Bool) : Book := fun f xs => match f, xs with
 | 11, [.v false [.sl _ cs]] => some (ret1 (.st (vB (x_fitC cs))), [])
 | 10, [] => some (ret1 (.st (vB true)), [])
 | 7, [.v false [.sl _ cs]] => some (ret1 (.tree shO (.sl (x_mkN cs) (x_mkC cs)) none), [])
 | 8, [.v false [.sl _ cs]] => some (ret1 (.st (vB (x_isC cs))), [])
 | 17, [.v false [.sl _ cs], .v false [.sl _ ds]] => some (ret1 (.st (vB (x_lkC cs ds))), [])
 | 18, [.v false [.sl _ cs], .v false [.sl _ ds]] => some (ret1 (.st (vB (x_sameC cs ds))), [])
 | 16, [.v false [.sl _ cs], .v false [.sl _ ds]] => some (ret1 (.st (vB (x_sameC cs ds))), [])
 | 14, [.v false [.sl _ cs], .v false [.val (.int _ n)]] => some (ret1 (.st (vB (x_lsC cs n))), [])
 | 15, [.v false [.sl _ cs]] => some (ret1 (.st (vB (x_odC cs))), [])
 | 13, [.v false [.sl _ cs], .v false [.sl _ ds], .v false [.val (.int _ n)]] => some (ret1 (.st (vB (x_l24C cs ds n))), [])
 | _, _ => none
theorem pc_MiniOne (a b : List Sta) (ha0 : a.length ≤ 4398046510976) (hb0 : b.length ≤ 4398046510976) (hOa : ∀ s ∈ a, s.1 ≤ 9223372036854775807) (hOb : ∀ s ∈ b, s.1 ≤ 9223372036854775807) (cA : ∀ a b, MOk a → MOk b → CApart a b 6) : PC Tryd.prog T 5 [.v false [.sl (nM a) (mC a)], .v false [.sl (nM b) (mC b)]] (ret1 (.st (vB true))) [] := by
 have cF := c_fits ha0
 have cF2 := c_fits hb0
 have ef : fitC (mC a) = fitsM a := by unfold fitC; rw [stsOf_mC]
 have ef2 : fitC (mC b) = fitsM b := by unfold fitC; rw [stsOf_mC]
 have cW := c_awake25
 refine pc_of tok Tryd.func5 rfl (by rfl) ?_
 obtain ⟨j, hj⟩ : ∃ j : J, j = std Tryd.prog T := ⟨_, rfl⟩
 have hm : Tryd.prog.follows .mixedOrders = true := by kernel_rfl
 rcases Bool.eq_false_or_eq_true (fitsM a) with hf | hf
 all_goals rw [hf] at ef
 rotate_left
 ·generalize y_lsC : @lsC = x_lsC at *
  generalize y_sameC : @sameC = x_sameC at *
  generalize y_odC : @odC = x_odC at *
  generalize y_fitC : @fitC = x_fitC at *
  generalize y_mkC : @mkC = x_mkC at *
  generalize y_mkN : @mkN = x_mkN at *
  generalize y_isC : @isC = x_isC at *
  generalize y_lkC : @lkC = x_lkC at *
  generalize y_l24C : @l24C = x_l24C at *
  generalize y_likeR : @likeR = x_likeR at *
  generalize y_mC : @mC = x_mC at *
  generalize y_nM : @nM = x_nM at *
  (repeat' first | ((first | with_reducible refine tr_cut (fun h => ?_) (fun h => ?_) | refine aw_condj (by cbv) (fun h => ?_) (fun h => ?_)) <;> (try simp (disch := omega) only [hj, std, cmpI, cmpB, satB, Bool.not_eq_true, Bool.not_eq_false, decide_eq_true_eq, decide_eq_false_iff_not, beq_iff_eq, bne_iff_ne, bne_eq_false_iff_eq, beq_eq_false_iff_ne, ne_eq, reduceCtorEq, not_true_eq_false, not_false_eq_true, pl0, if_true, cmpS_eq, cmpS_neq, Bool.not_eq_eq_eq_not, Bool.not_true, Bool.not_false, Bool.not_eq_true', ef, ef2, Int.ofNat_eq_natCast, add64, sub64] at h) <;> (try (exfalso; omega))) | (with_reducible refine tr_alt (fun h => ?_) ?_ <;> (try (exfalso; omega))) | (with_reducible first | refine tr_ob ?_ ?_ | refine tr_done ?_) | (refine aw_tr hj tok (bookMH x_lsC x_sameC x_odC x_fitC x_mkC x_mkN x_isC x_lkC x_l24C) (by cbv) ?_) | (refine aw_seq fun K hK => ?_) | (refine aw_tr1 hj tok (bookMH x_lsC x_sameC x_odC x_fitC x_mkC x_mkN x_isC x_lkC x_l24C) (by cbv) ?_) | (refine aw_skip ?_) | (refine aw_block ?_) | (refine aw_exit ?_) | (refine aw_ret ⟨.inr rfl, ret_okj hj (by cbv) ?_ ?_⟩) | (refine aw_ret ?_) | (with_reducible first | refine th_n ?_ | refine th_r ?_ | refine th_x ?_ | refine blk_n ?_ | refine blk_r ?_ | refine blk_x ?_ | refine blk_y rfl ?_) | (refine ⟨.inr rfl, ret_okj hj (by cbv) ?_ ?_⟩) | (refine ⟨.inl rfl, ret_okj hj (by cbv) ?_ ?_⟩) | (with_reducible apply_assumption -symm -exfalso only [*]))
  all_goals ((try subst y_lsC); (try subst y_sameC); (try subst y_odC); (try subst y_fitC); (try subst y_mkC); (try subst y_mkN); (try subst y_isC); (try subst y_lkC); (try subst y_l24C); (try subst y_likeR); (try subst y_mC); (try subst y_nM))
  all_goals (try (repeat' first | with_reducible exact obl0 | (with_reducible refine obl1 ?_ ?_)))
  all_goals (try first | with_reducible exact True.intro | ((first | refine ob_pc hj ?_ | refine ob_pcn hj ?_); (try rw [hj]); first | exact cF | exact cF2 | exact cW) | ((first | refine ob_le hj ?_ | refine ob_lei hj ?_ | refine ob_inb hj ?_ | refine ob_pos hj ?_ | refine ob_ne0 hj ?_ | refine ob_eqb hj ?_); (first | rfl | first | omega | (simp only [hj, std]; split <;> omega) | (simp (disch := omega) only [hj, std, cmpI, cmpB, satB, add64, sub64, ite0, pl0, pl2, pl3, sb0, if_true, if_false, eq_self] <;> omega) | (simp (disch := omega) [hj, std, cmpI, cmpB, satB, add64, sub64, ite0, pl0, pl2, pl3, sb0, if_true, if_false, eq_self] <;> omega))) | (exact rfl))
 rcases Bool.eq_false_or_eq_true (fitsM b) with hg | hg
 all_goals rw [hg] at ef2
 rotate_left
 ·generalize y_lsC : @lsC = x_lsC at *
  generalize y_sameC : @sameC = x_sameC at *
  generalize y_odC : @odC = x_odC at *
  generalize y_fitC : @fitC = x_fitC at *
  generalize y_mkC : @mkC = x_mkC at *
  generalize y_mkN : @mkN = x_mkN at *
  generalize y_isC : @isC = x_isC at *
  generalize y_lkC : @lkC = x_lkC at *
  generalize y_l24C : @l24C = x_l24C at *
  generalize y_likeR : @likeR = x_likeR at *
  generalize y_mC : @mC = x_mC at *
  generalize y_nM : @nM = x_nM at *
  (repeat' first | ((first | with_reducible refine tr_cut (fun h => ?_) (fun h => ?_) | refine aw_condj (by cbv) (fun h => ?_) (fun h => ?_)) <;> (try simp (disch := omega) only [hj, std, cmpI, cmpB, satB, Bool.not_eq_true, Bool.not_eq_false, decide_eq_true_eq, decide_eq_false_iff_not, beq_iff_eq, bne_iff_ne, bne_eq_false_iff_eq, beq_eq_false_iff_ne, ne_eq, reduceCtorEq, not_true_eq_false, not_false_eq_true, pl0, if_true, cmpS_eq, cmpS_neq, Bool.not_eq_eq_eq_not, Bool.not_true, Bool.not_false, Bool.not_eq_true', ef, ef2, Int.ofNat_eq_natCast, add64, sub64] at h) <;> (try (exfalso; omega))) | (with_reducible refine tr_alt (fun h => ?_) ?_ <;> (try (exfalso; omega))) | (with_reducible first | refine tr_ob ?_ ?_ | refine tr_done ?_) | (refine aw_tr hj tok (bookMH x_lsC x_sameC x_odC x_fitC x_mkC x_mkN x_isC x_lkC x_l24C) (by cbv) ?_) | (refine aw_seq fun K hK => ?_) | (refine aw_tr1 hj tok (bookMH x_lsC x_sameC x_odC x_fitC x_mkC x_mkN x_isC x_lkC x_l24C) (by cbv) ?_) | (refine aw_skip ?_) | (refine aw_block ?_) | (refine aw_exit ?_) | (refine aw_ret ⟨.inr rfl, ret_okj hj (by cbv) ?_ ?_⟩) | (refine aw_ret ?_) | (with_reducible first | refine th_n ?_ | refine th_r ?_ | refine th_x ?_ | refine blk_n ?_ | refine blk_r ?_ | refine blk_x ?_ | refine blk_y rfl ?_) | (refine ⟨.inr rfl, ret_okj hj (by cbv) ?_ ?_⟩) | (refine ⟨.inl rfl, ret_okj hj (by cbv) ?_ ?_⟩) | (with_reducible apply_assumption -symm -exfalso only [*]))
  all_goals ((try subst y_lsC); (try subst y_sameC); (try subst y_odC); (try subst y_fitC); (try subst y_mkC); (try subst y_mkN); (try subst y_isC); (try subst y_lkC); (try subst y_l24C); (try subst y_likeR); (try subst y_mC); (try subst y_nM))
  all_goals (try (repeat' first | with_reducible exact obl0 | (with_reducible refine obl1 ?_ ?_)))
  all_goals (try first | with_reducible exact True.intro | ((first | refine ob_pc hj ?_ | refine ob_pcn hj ?_); (try rw [hj]); first | exact cF | exact cF2 | exact cW) | ((first | refine ob_le hj ?_ | refine ob_lei hj ?_ | refine ob_inb hj ?_ | refine ob_pos hj ?_ | refine ob_ne0 hj ?_ | refine ob_eqb hj ?_); (first | rfl | first | omega | (simp only [hj, std]; split <;> omega) | (simp (disch := omega) only [hj, std, cmpI, cmpB, satB, add64, sub64, ite0, pl0, pl2, pl3, sb0, if_true, if_false, eq_self] <;> omega) | (simp (disch := omega) [hj, std, cmpI, cmpB, satB, add64, sub64, ite0, pl0, pl2, pl3, sb0, if_true, if_false, eq_self] <;> omega))) | (exact rfl))
 have ka := mok_of hf hOa
 have kb := mok_of hg hOb
 have cL := c_Like24 (cA a b ka kb)
 have cM := c_Make ka
 have cM2 := c_Make kb
 have cS := c_Same24 (makeM a) (makeM b) ka.szMake kb.szMake
 have cK := c_LikeP ka kb
 have cP := c_SameP a b ka.sz kb.sz
 have cS2 := c_Same24 a b ka.sz kb.sz
 have hone : sameM (makeM a) (makeM b) = likeR a b 6 := by
  rw [Bool.eq_iff_iff, like_iff (n := 6) ka.v kb.v]
  unfold sameM
  rw [decide_eq_true_eq]
  exact make_one ka.v kb.v
 have e1 : sameC (mC (makeM a)) (mC (makeM b)) = l24C (mC a) (mC b) 6 := by unfold sameC l24C; rw [stsOf_mC, stsOf_mC, stsOf_mC, stsOf_mC]; exact hone
 have e2 : lkC (mC a) (mC b) = l24C (mC a) (mC b) 6 := by unfold lkC l24C; rw [stsOf_mC, stsOf_mC]; exact hone
 rw [← (mk_eq a).1, ← (mk_eq b).1] at cS e1
 rw [← (mk_eq a).2, ← (mk_eq b).2] at cS
 clear ha0 hb0 hOa hOb hf hg cA hone
 generalize y_lsC : @lsC = x_lsC at *
 generalize y_sameC : @sameC = x_sameC at *
 generalize y_odC : @odC = x_odC at *
 generalize y_fitC : @fitC = x_fitC at *
 generalize y_mkC : @mkC = x_mkC at *
 generalize y_mkN : @mkN = x_mkN at *
 generalize y_isC : @isC = x_isC at *
 generalize y_lkC : @lkC = x_lkC at *
 generalize y_l24C : @l24C = x_l24C at *
 generalize y_likeR : @likeR = x_likeR at *
 generalize y_mC : @mC = x_mC at *
 generalize y_nM : @nM = x_nM at *
 (repeat' first | ((first | with_reducible refine tr_cut (fun h => ?_) (fun h => ?_) | refine aw_condj (by cbv) (fun h => ?_) (fun h => ?_)) <;> (try simp (disch := omega) only [hj, std, cmpI, cmpB, satB, Bool.not_eq_true, Bool.not_eq_false, decide_eq_true_eq, decide_eq_false_iff_not, beq_iff_eq, bne_iff_ne, bne_eq_false_iff_eq, beq_eq_false_iff_ne, ne_eq, reduceCtorEq, not_true_eq_false, not_false_eq_true, pl0, if_true, cmpS_eq, cmpS_neq, Bool.not_eq_eq_eq_not, Bool.not_true, Bool.not_false, Bool.not_eq_true', ef, ef2, e1, e2, Int.ofNat_eq_natCast, add64, sub64] at h) <;> (try (exfalso; omega))) | (with_reducible refine tr_alt (fun h => ?_) ?_ <;> (try (exfalso; omega))) | (with_reducible first | refine tr_ob ?_ ?_ | refine tr_done ?_) | (refine aw_tr hj tok (bookMH x_lsC x_sameC x_odC x_fitC x_mkC x_mkN x_isC x_lkC x_l24C) (by cbv) ?_) | (refine aw_seq fun K hK => ?_) | (refine aw_tr1 hj tok (bookMH x_lsC x_sameC x_odC x_fitC x_mkC x_mkN x_isC x_lkC x_l24C) (by cbv) ?_) | (refine aw_skip ?_) | (refine aw_block ?_) | (refine aw_exit ?_) | (refine aw_ret ⟨.inr rfl, ret_okj hj (by cbv) ?_ ?_⟩) | (refine aw_ret ?_) | (with_reducible first | refine th_n ?_ | refine th_r ?_ | refine th_x ?_ | refine blk_n ?_ | refine blk_r ?_ | refine blk_x ?_ | refine blk_y rfl ?_) | (refine ⟨.inr rfl, ret_okj hj (by cbv) ?_ ?_⟩) | (refine ⟨.inl rfl, ret_okj hj (by cbv) ?_ ?_⟩) | (with_reducible apply_assumption -symm -exfalso only [*]))
 all_goals ((try subst y_lsC); (try subst y_sameC); (try subst y_odC); (try subst y_fitC); (try subst y_mkC); (try subst y_mkN); (try subst y_isC); (try subst y_lkC); (try subst y_l24C); (try subst y_likeR); (try subst y_mC); (try subst y_nM))
 all_goals (try (repeat' first | with_reducible exact obl0 | with_reducible refine obl1 ?_ ?_))
 all_goals (try first | with_reducible exact True.intro | ((first | refine ob_pc hj ?_ | refine ob_pcn hj ?_); (try rw [hj]); first | exact cF | exact cF2 | exact cL | exact cM | exact cM2 | exact cS | exact cK | exact cP | exact cS2 | exact cW) | ((first | refine ob_le hj ?_ | refine ob_lei hj ?_ | refine ob_inb hj ?_ | refine ob_pos hj ?_ | refine ob_ne0 hj ?_ | refine ob_eqb hj ?_); (first | rfl | first | omega | (simp only [hj, std]; split <;> omega) | (simp (disch := omega) only [hj, std, cmpI, cmpB, satB, add64, sub64, ite0, pl0, pl2, pl3, sb0, if_true, if_false, eq_self] <;> omega) | (simp (disch := omega) [hj, std, cmpI, cmpB, satB, add64, sub64, ite0, pl0, pl2, pl3, sb0, if_true, if_false, eq_self] <;> omega))) | (exact rfl))
end Go.Proofs.YtcpcghnpoekhpaaDoor.A
/- MiniOne: the walk, as the row's step asks for it. -/
set_option linter.unusedSimpArgs false
set_option linter.unusedVariables false
set_option maxRecDepth 100000
set_option maxHeartbeats 4000000
namespace Go.Proofs.YtcpcghnpoekhpaaDoor
open Go Go.RowKit
theorem miniOne_walk (w : World) (a : Option Addr) (len cap : Nat) (m : List A.Sta) (R : A.RMac w (Value.slice a len cap).cells.toList m) (a' : Option Addr) (len' cap' : Nat) (m' : List A.Sta) (R' : A.RMac w (Value.slice a' len' cap').cells.toList m') (htab : A.Gnd w (fun b => b < w.heap.size)) : Calls Tryd.prog 5 #[.slice a len cap, .slice a' len' cap'] w fun e w' => e = .returned (.bool true) ∧ Below w.heap.size w w' :=
 A.walk_of_pc (vs := [.slice a len cap, .slice a' len' cap']) (A.pc_MiniOne m m' (A.mac_sz R).1 (A.mac_sz R').1 (A.mac_bound R) (A.mac_bound R') fun _ _ h h' => A.c_Apart h h') (by simp [A.Arg.asRoot]) (fun b => b < w.heap.size) (fun _ h => h) rfl (mac_rep2 R R') rfl htab
end Go.Proofs.YtcpcghnpoekhpaaDoor
