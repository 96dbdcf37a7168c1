/- What MiniSame needs beyond, part 1. -/
import Derived.Test.YtcpcghnpoekhpaaDoorMz6
import Derived.WalkKit
import Derived.WalkSpells
import Derived.WalkLawsBesides
import Derived.Lib.Hide
import Derived.Laws.AppendOwnNone
import Derived.Laws.CopyOwn
import Derived.BigQuiet
import Derived.Deep.QuietTactic
import Derived.Deep.RegionHeld3
import Derived.Deep.AppendLies
import Derived.OrdersHeld
import Derived.MapKept
import Derived.Laws.StructEq
import Derived.Great.BuildSlice
import Derived.Laws.IdiomStrings
import Derived.Lib.AppendZeros
import Derived.ProofKit
import Derived.OpenShut
import Derived.SizedLaws
import Derived.Deep.Slices
import Derived.Deep.Strs
import Derived.NoCompiler
import Derived.Test.YtcpcghnpoekhpaaDoorProg
import Derived.Shelf.Strconv.Itoa0
import Derived.Shelf.Strconv.Itoa1
import Derived.Shelf.Strconv.Itoa2
import Derived.Shelf.Strconv.Itoa3
import Derived.Shelf.LaysM
import Derived.Lib.ItoaNum
import Derived.Lib.ItoaLen
import Derived.BigCall
import Derived.BigRegion
import Derived.StillTailTactics
import Derived.Laws.EntriesVeiled
import Derived.Test.YtcpcghnpoekhpaaDoorRows
import Derived.LaidMore
import Derived.SevenTiedAt
import Derived.Lib.LaidTab
import Derived.MakeChecks
/- Machines, the reference: Like, Least, Ordered. -/
set_option linter.unusedSimpArgs false
set_option linter.unusedVariables false
set_option maxRecDepth 100000
set_option maxHeartbeats 4000000
namespace Go.Proofs.YtcpcghnpoekhpaaDoor.A
open Go
def bookM9 (x_apC : List C → List C → Int → List C) (x_nApC : List C → List C → Int → Nat) (x_rchC : List C → List C) : Book := fun f xs => match f, xs with
 | 20, [.v false [.sl _ cs], .v false [.sl _ ds], .v false [.val (.int _ n)]] => some (ret1 (.tree sh9 (.sl (x_nApC cs ds n) (x_apC cs ds n)) none), [])
 | 19, [.v false [.sl n cs]] => some (ret1 (.own b9 n (x_rchC cs)), [])
 | _, _ => none
set_option linter.unusedVariables false
theorem apC_eq (a b : List Sta) (n : Nat) : apC (mC a) (mC b) n = mtC (apF a b n) ∧ nApC (mC a) (mC b) n = nMt (apF a b n) := by
 unfold apC nApC; rw [stsOf_mC, stsOf_mC, Int.toNat_natCast]; exact ⟨rfl, rfl⟩
def likeR (a b : List Sta) (n : Nat) : Bool := !xAt (apF a b n) 0 0
theorem pc_Like24 (a b : List Sta) (n : Nat) (cA : pc 20 [.v false [.sl (nM a) (mC a)], .v false [.sl (nM b) (mC b)], .v false [vI n]] (ret1 (.tree sh9 (.sl (nApC (mC a) (mC b) n) (apC (mC a) (mC b) n)) none))) : PC Tryd.prog T 13 [.v false [.sl (nM a) (mC a)], .v false [.sl (nM b) (mC b)], .v false [vI n]] (ret1 (.st (vB (likeR a b n)))) [] := by
 obtain ⟨e1, e2⟩ := apC_eq a b n
 have hr := apF_rect a b n
 have hR : likeR a b n = !xAt (apF a b n) 0 0 := rfl
 have hl := hr.1
 have hl0 := hr.2 0 (by omega)
 generalize likeR a b n = R at *
 generalize apF a b n = X at *
 have nv := nMt_eq X
 have lv := mtC_len X
 have hci := mtC_cell (l := X) (k := 0) (by omega)
 have w1 : gn (cellAt (mtC X) 0) = nB (rwAt X 0) := by rw [hci]; rfl
 have w2 : gc (cellAt (mtC X) 0) = bC (rwAt X 0) := by rw [hci]; rfl
 have w3 : gb (cellAt (bC (rwAt X 0)) 0) = xAt X 0 0 := gb_bC _ _
 have hoi : okK .bool (cellAt (bC (rwAt X 0)) 0) := ok_bC (by omega)
 have nri := nB_eq (rwAt X 0)
 have lri := bC_len (rwAt X 0)
 rw [← e1] at hci w1 w2 lv
 rw [← e2] at nv lv
 refine pc_of tok Tryd.func13 rfl (by rfl) ?_
 obtain ⟨j, hj⟩ : ∃ j : J, j = std Tryd.prog T := ⟨_, rfl⟩
 have hm : Tryd.prog.follows .mixedOrders = true := by kernel_rfl
 generalize y_apC : @apC = x_apC at *
 generalize y_nApC : @nApC = x_nApC at *
 generalize y_rchC : @rchC = x_rchC at *
 generalize y_likeR : @likeR = x_likeR at *
 generalize y_bC : @bC = x_bC at *
 generalize y_nB : @nB = x_nB at *
 generalize y_mC : @mC = x_mC at *
 generalize y_nM : @nM = x_nM at *
 generalize y_mtC : @mtC = x_mtC at *
 (repeat' first | ((first | with_reducible refine tr_cut (fun h => ?_) (fun h => ?_) | refine aw_condj (by cbv) (fun h => ?_) (fun h => ?_)) <;> (try simp (disch := omega) only [hj, std, cmpI, cmpB, satB, Bool.not_eq_true, Bool.not_eq_false, decide_eq_true_eq, decide_eq_false_iff_not, beq_iff_eq, bne_iff_ne, bne_eq_false_iff_eq, beq_eq_false_iff_ne, ne_eq, reduceCtorEq, not_true_eq_false, not_false_eq_true, pl0, if_true, cmpS_eq, cmpS_neq, Bool.not_eq_eq_eq_not, Bool.not_true, Bool.not_false, Bool.not_eq_true', hci, ite0, Int.ofNat_eq_natCast, Int.toNat_zero, add64, sub64] at h) <;> (try (exfalso; omega))) | (with_reducible refine tr_alt (fun h => ?_) ?_ <;> (try (exfalso; omega))) | (with_reducible first | refine tr_ob ?_ ?_ | refine tr_done ?_) | (refine aw_tr hj tok (bookM9 x_apC x_nApC x_rchC) (by cbv) ?_) | (refine aw_seq fun K hK => ?_) | (refine aw_tr1 hj tok (bookM9 x_apC x_nApC x_rchC) (by cbv) ?_) | (refine aw_skip ?_) | (refine aw_block ?_) | (refine aw_exit ?_) | (refine aw_ret ⟨.inr rfl, ret_okj hj (by cbv) ?_ ?_⟩) | (refine aw_ret ?_) | (with_reducible first | refine th_n ?_ | refine th_r ?_ | refine th_x ?_ | refine blk_n ?_ | refine blk_r ?_ | refine blk_x ?_ | refine blk_y rfl ?_) | (refine ⟨.inr rfl, ret_okj hj (by cbv) ?_ ?_⟩) | (refine ⟨.inl rfl, ret_okj hj (by cbv) ?_ ?_⟩) | (with_reducible apply_assumption -symm -exfalso only [*]))
 all_goals ((try subst y_apC); (try subst y_nApC); (try subst y_rchC); (try subst y_likeR); (try subst y_bC); (try subst y_nB); (try subst y_mC); (try subst y_nM); (try subst y_mtC))
 all_goals (try (repeat' first | with_reducible exact obl0 | with_reducible refine obl1 ?_ ?_))
 all_goals (try first | with_reducible exact True.intro | ((first | refine ob_pc hj ?_ | refine ob_pcn hj ?_); (try rw [hj]); first | exact cA) | ((first | refine ob_le hj ?_ | refine ob_lei hj ?_ | refine ob_inb hj ?_ | refine ob_pos hj ?_ | refine ob_ne0 hj ?_ | refine ob_eqb hj ?_); (first | rfl | first | omega | (simp only [hj, std]; split <;> omega) | (simp (disch := omega) only [hj, std, cmpI, cmpB, satB, add64, sub64, ite0, pl0, pl2, pl3, sb0, if_true, if_false, eq_self, lv, nv, nri, lri, hci, Int.ofNat_eq_natCast, Int.toNat_zero] <;> omega) | (simp (disch := omega) [hj, std, cmpI, cmpB, satB, add64, sub64, ite0, pl0, pl2, pl3, sb0, if_true, if_false, eq_self, lv, nv, nri, lri, hci, Int.ofNat_eq_natCast, Int.toNat_zero] <;> omega))) | ((refine ob_ok hj ?_; simp only [hj, std, ite0, Int.ofNat_eq_natCast, hci, Int.toNat_zero]; first | exact .inr ⟨_, _, rfl⟩ | exact .inr ⟨_, _, hci⟩ | exact hoi)) | ((refine r1b ?_; simp only [hj, std, ite0, Int.ofNat_eq_natCast, hci, Int.toNat_zero, w3, hR])))
/-! ### Ordered -/
end Go.Proofs.YtcpcghnpoekhpaaDoor.A
/- Machines: the least machine tells the same; what it is like. The plain law. -/
set_option linter.unusedSimpArgs false
set_option linter.unusedVariables false
set_option maxRecDepth 100000
set_option maxHeartbeats 4000000
namespace Go.Proofs.YtcpcghnpoekhpaaDoor.A
open Go
section
variable {m : List Sta} {U : List Bool} {K Q : List Int}
end
section
variable {m x : List Sta} {Q : List Int}
end
theorem like_iff {a b : List Sta} {n : Nat} (ha : Vm n a) (hb : Vm n b) : likeR a b n = true ↔ ∀ w, tellS a 0 w = tellS b 0 w := by
 unfold likeR
 rw [Bool.not_eq_true', Bool.eq_false_iff, ne_eq, apF_iff (by omega) (by omega)]
 constructor
 ·intro h w
  apply Classical.byContradiction
  intro hne
  refine h ⟨w, ?_, hne⟩
  by_cases h1 : tellS a 0 w = -1
  ·exact tl_letters hb w _ (fun h2 => hne (h1.trans h2.symm))
  ·exact tl_letters ha w _ h1
 ·rintro h ⟨w, _, hne⟩
  exact hne (h w)
theorem make_same {m : List Sta} (hv : Vm 6 m) : validM (makeM m) 6 = true ∧ likeR m (makeM m) 6 = true := by
 obtain ⟨h1, h2⟩ := make_like hv
 exact ⟨vm_iff.2 h1, (like_iff (n := 6) hv h1).2 h2⟩
end Go.Proofs.YtcpcghnpoekhpaaDoor.A
/- MiniSame: the law's walk. -/
set_option linter.unusedSimpArgs false
set_option linter.unusedVariables false
set_option maxRecDepth 100000
set_option maxHeartbeats 4000000
namespace Go.Proofs.YtcpcghnpoekhpaaDoor.A
open Go
set_option linter.unusedVariables false
def l24C (cs ds : List C) (n : Int) : Bool := likeR (stsOf cs) (stsOf ds) n.toNat
theorem c_Like24 {a b : List Sta} (cA : CApart a b 6) : pc 13 [.v false [.sl (nM a) (mC a)], .v false [.sl (nM b) (mC b)], .v false [vI 6]] (ret1 (.st (vB (l24C (mC a) (mC b) 6)))) := by
 refine ⟨enters Tryd.func13 (by kernel_rfl) (by kernel_rfl), ?_⟩
 have e : l24C (mC a) (mC b) 6 = likeR a b 6 := by unfold l24C; rw [stsOf_mC, stsOf_mC]; rfl
 rw [e]
 exact pc_Like24 a b 6 cA
def bookE0 : Book := fun f xs => match f, xs with
 | 21, [.v false [.sl _ _]] => some (ret1 (.st (vB false)), [])
 | 7, [.v false [.sl _ _]] => some (ret1 (.st .nil), [])
 | 8, [.v false [.sl _ _]] => some (ret1 (.st (vB false)), [])
 | 9, [.v false [.sl _ _]] => some (ret1 (.st .nil), [])
 | 10, [] => some (ret1 (.st (vB true)), [])
 | _, _ => none
theorem c_right0 : pc 21 [.v false [.sl 0 []]] (ret1 (.st (vB false))) :=
 ⟨enters Tryd.func21 (by kernel_rfl) (by kernel_rfl), pc_right [] ⟨by simp, fun s hs => by cases hs⟩⟩
theorem c_Make0 : pc 7 [.v false [.sl 0 []]] (ret1 (.st .nil)) := by
 refine ⟨enters Tryd.func7 (by kernel_rfl) (by kernel_rfl), ?_⟩
 have c := c_right0
 refine pc_of tok Tryd.func7 rfl (by rfl) ?_
 obtain ⟨j, hj⟩ : ∃ j : J, j = std Tryd.prog T := ⟨_, rfl⟩
 have hm : Tryd.prog.follows .mixedOrders = true := by kernel_rfl
 (repeat' first | ((first | with_reducible refine tr_cut (fun h => ?_) (fun h => ?_) | refine aw_condj (by cbv) (fun h => ?_) (fun h => ?_)) <;> (try simp (disch := omega) only [hj, std, cmpI, cmpB, satB, Bool.not_eq_true, Bool.not_eq_false, decide_eq_true_eq, decide_eq_false_iff_not, beq_iff_eq, bne_iff_ne, bne_eq_false_iff_eq, beq_eq_false_iff_ne, ne_eq, reduceCtorEq, not_true_eq_false, not_false_eq_true, pl0, if_true, cmpS_eq, cmpS_neq, Bool.not_eq_eq_eq_not, Bool.not_true, Bool.not_false, Bool.not_eq_true', add64, sub64] at h) <;> (try (exfalso; omega))) | (with_reducible refine tr_alt (fun h => ?_) ?_ <;> (try (exfalso; omega))) | (with_reducible first | refine tr_ob ?_ ?_ | refine tr_done ?_) | (refine aw_tr hj tok bookE0 (by cbv) ?_) | (refine aw_seq fun K hK => ?_) | (refine aw_tr1 hj tok bookE0 (by cbv) ?_) | (refine aw_skip ?_) | (refine aw_block ?_) | (refine aw_exit ?_) | (refine aw_ret ⟨.inr rfl, ret_okj hj (by cbv) ?_ ?_⟩) | (refine aw_ret ?_) | (with_reducible first | refine th_n ?_ | refine th_r ?_ | refine th_x ?_ | refine blk_n ?_ | refine blk_r ?_ | refine blk_x ?_ | refine blk_y rfl ?_) | (refine ⟨.inr rfl, ret_okj hj (by cbv) ?_ ?_⟩) | (refine ⟨.inl rfl, ret_okj hj (by cbv) ?_ ?_⟩) | (with_reducible apply_assumption -symm -exfalso only [*]))
 all_goals (try (repeat' first | with_reducible exact obl0 | with_reducible refine obl1 ?_ ?_))
 all_goals (try first | with_reducible exact True.intro | ((first | refine ob_pc hj ?_ | refine ob_pcn hj ?_); (try rw [hj]); first | exact c) | ((first | refine ob_le hj ?_ | refine ob_lei hj ?_ | refine ob_inb hj ?_ | refine ob_pos hj ?_ | refine ob_ne0 hj ?_ | refine ob_eqb hj ?_); (first | rfl | first | omega | (simp only [hj, std]; split <;> omega) | (simp (disch := omega) only [hj, std, cmpI, cmpB, satB, add64, sub64, ite0, pl0, pl2, pl3, sb0, if_true, if_false, eq_self] <;> omega) | (simp (disch := omega) [hj, std, cmpI, cmpB, satB, add64, sub64, ite0, pl0, pl2, pl3, sb0, if_true, if_false, eq_self] <;> omega))) | (exact rfl))
theorem c_Use0 : pc 9 [.v false [.sl 0 []]] (ret1 (.st .nil)) := by
 refine ⟨enters Tryd.func9 (by kernel_rfl) (by kernel_rfl), ?_⟩
 have c := c_right0
 refine pc_of tok Tryd.func9 rfl (by rfl) ?_
 obtain ⟨j, hj⟩ : ∃ j : J, j = std Tryd.prog T := ⟨_, rfl⟩
 have hm : Tryd.prog.follows .mixedOrders = true := by kernel_rfl
 (repeat' first | ((first | with_reducible refine tr_cut (fun h => ?_) (fun h => ?_) | refine aw_condj (by cbv) (fun h => ?_) (fun h => ?_)) <;> (try simp (disch := omega) only [hj, std, cmpI, cmpB, satB, Bool.not_eq_true, Bool.not_eq_false, decide_eq_true_eq, decide_eq_false_iff_not, beq_iff_eq, bne_iff_ne, bne_eq_false_iff_eq, beq_eq_false_iff_ne, ne_eq, reduceCtorEq, not_true_eq_false, not_false_eq_true, pl0, if_true, cmpS_eq, cmpS_neq, Bool.not_eq_eq_eq_not, Bool.not_true, Bool.not_false, Bool.not_eq_true', add64, sub64] at h) <;> (try (exfalso; omega))) | (with_reducible refine tr_alt (fun h => ?_) ?_ <;> (try (exfalso; omega))) | (with_reducible first | refine tr_ob ?_ ?_ | refine tr_done ?_) | (refine aw_tr hj tok bookE0 (by cbv) ?_) | (refine aw_seq fun K hK => ?_) | (refine aw_tr1 hj tok bookE0 (by cbv) ?_) | (refine aw_skip ?_) | (refine aw_block ?_) | (refine aw_exit ?_) | (refine aw_ret ⟨.inr rfl, ret_okj hj (by cbv) ?_ ?_⟩) | (refine aw_ret ?_) | (with_reducible first | refine th_n ?_ | refine th_r ?_ | refine th_x ?_ | refine blk_n ?_ | refine blk_r ?_ | refine blk_x ?_ | refine blk_y rfl ?_) | (refine ⟨.inr rfl, ret_okj hj (by cbv) ?_ ?_⟩) | (refine ⟨.inl rfl, ret_okj hj (by cbv) ?_ ?_⟩) | (with_reducible apply_assumption -symm -exfalso only [*]))
 all_goals (try (repeat' first | with_reducible exact obl0 | with_reducible refine obl1 ?_ ?_))
 all_goals (try first | with_reducible exact True.intro | ((first | refine ob_pc hj ?_ | refine ob_pcn hj ?_); (try rw [hj]); first | exact c) | ((first | refine ob_le hj ?_ | refine ob_lei hj ?_ | refine ob_inb hj ?_ | refine ob_pos hj ?_ | refine ob_ne0 hj ?_ | refine ob_eqb hj ?_); (first | rfl | first | omega | (simp only [hj, std]; split <;> omega) | (simp (disch := omega) only [hj, std, cmpI, cmpB, satB, add64, sub64, ite0, pl0, pl2, pl3, sb0, if_true, if_false, eq_self] <;> omega) | (simp (disch := omega) [hj, std, cmpI, cmpB, satB, add64, sub64, ite0, pl0, pl2, pl3, sb0, if_true, if_false, eq_self] <;> omega))) | (exact rfl))
theorem c_Is0 : pc 8 [.v false [.sl 0 []]] (ret1 (.st (vB false))) := by
 refine ⟨enters Tryd.func8 (by kernel_rfl) (by kernel_rfl), ?_⟩
 refine pc_of tok Tryd.func8 rfl (by rfl) ?_
 obtain ⟨j, hj⟩ : ∃ j : J, j = std Tryd.prog T := ⟨_, rfl⟩
 have hm : Tryd.prog.follows .mixedOrders = true := by kernel_rfl
 (repeat' first | ((first | with_reducible refine tr_cut (fun h => ?_) (fun h => ?_) | refine aw_condj (by cbv) (fun h => ?_) (fun h => ?_)) <;> (try simp (disch := omega) only [hj, std, cmpI, cmpB, satB, Bool.not_eq_true, Bool.not_eq_false, decide_eq_true_eq, decide_eq_false_iff_not, beq_iff_eq, bne_iff_ne, bne_eq_false_iff_eq, beq_eq_false_iff_ne, ne_eq, reduceCtorEq, not_true_eq_false, not_false_eq_true, pl0, if_true, cmpS_eq, cmpS_neq, Bool.not_eq_eq_eq_not, Bool.not_true, Bool.not_false, Bool.not_eq_true', add64, sub64] at h) <;> (try (exfalso; omega))) | (with_reducible refine tr_alt (fun h => ?_) ?_ <;> (try (exfalso; omega))) | (with_reducible first | refine tr_ob ?_ ?_ | refine tr_done ?_) | (refine aw_tr hj tok bookE0 (by cbv) ?_) | (refine aw_seq fun K hK => ?_) | (refine aw_tr1 hj tok bookE0 (by cbv) ?_) | (refine aw_skip ?_) | (refine aw_block ?_) | (refine aw_exit ?_) | (refine aw_ret ⟨.inr rfl, ret_okj hj (by cbv) ?_ ?_⟩) | (refine aw_ret ?_) | (with_reducible first | refine th_n ?_ | refine th_r ?_ | refine th_x ?_ | refine blk_n ?_ | refine blk_r ?_ | refine blk_x ?_ | refine blk_y rfl ?_) | (refine ⟨.inr rfl, ret_okj hj (by cbv) ?_ ?_⟩) | (refine ⟨.inl rfl, ret_okj hj (by cbv) ?_ ?_⟩) | (with_reducible apply_assumption -symm -exfalso only [*]))
 all_goals (try (repeat' first | with_reducible exact obl0 | with_reducible refine obl1 ?_ ?_))
 all_goals (try first | with_reducible exact True.intro | ((first | refine ob_le hj ?_ | refine ob_lei hj ?_ | refine ob_inb hj ?_ | refine ob_pos hj ?_ | refine ob_ne0 hj ?_ | refine ob_eqb hj ?_); (first | rfl | first | omega | (simp only [hj, std]; split <;> omega) | (simp (disch := omega) only [hj, std, cmpI, cmpB, satB, add64, sub64, ite0, pl0, pl2, pl3, sb0, if_true, if_false, eq_self] <;> omega) | (simp (disch := omega) [hj, std, cmpI, cmpB, satB, add64, sub64, ite0, pl0, pl2, pl3, sb0, if_true, if_false, eq_self] <;> omega))) | (exact rfl))
theorem pc_MiniSame0 : PC Tryd.prog T 3 [.v false [.sl 0 []]] (ret1 (.st (vB true))) [] := by
 have cM := c_Make0
 have cU := c_Use0
 have cI := c_Is0
 have cW := c_awake25
 refine pc_of tok Tryd.func3 rfl (by rfl) ?_
 obtain ⟨j, hj⟩ : ∃ j : J, j = std Tryd.prog T := ⟨_, rfl⟩
 have hm : Tryd.prog.follows .mixedOrders = true := by kernel_rfl
 (repeat' first | ((first | with_reducible refine tr_cut (fun h => ?_) (fun h => ?_) | refine aw_condj (by cbv) (fun h => ?_) (fun h => ?_)) <;> (try simp (disch := omega) only [hj, std, cmpI, cmpB, satB, Bool.not_eq_true, Bool.not_eq_false, decide_eq_true_eq, decide_eq_false_iff_not, beq_iff_eq, bne_iff_ne, bne_eq_false_iff_eq, beq_eq_false_iff_ne, ne_eq, reduceCtorEq, not_true_eq_false, not_false_eq_true, pl0, if_true, cmpS_eq, cmpS_neq, Bool.not_eq_eq_eq_not, Bool.not_true, Bool.not_false, Bool.not_eq_true', Int.ofNat_eq_natCast, add64, sub64] at h) <;> (try (exfalso; omega))) | (with_reducible refine tr_alt (fun h => ?_) ?_ <;> (try (exfalso; omega))) | (with_reducible first | refine tr_ob ?_ ?_ | refine tr_done ?_) | (refine aw_tr hj tok bookE0 (by cbv) ?_) | (refine aw_seq fun K hK => ?_) | (refine aw_tr1 hj tok bookE0 (by cbv) ?_) | (refine aw_skip ?_) | (refine aw_block ?_) | (refine aw_exit ?_) | (refine aw_ret ⟨.inr rfl, ret_okj hj (by cbv) ?_ ?_⟩) | (refine aw_ret ?_) | (with_reducible first | refine th_n ?_ | refine th_r ?_ | refine th_x ?_ | refine blk_n ?_ | refine blk_r ?_ | refine blk_x ?_ | refine blk_y rfl ?_) | (refine ⟨.inr rfl, ret_okj hj (by cbv) ?_ ?_⟩) | (refine ⟨.inl rfl, ret_okj hj (by cbv) ?_ ?_⟩) | (with_reducible apply_assumption -symm -exfalso only [*]))
 all_goals (try (repeat' first | with_reducible exact obl0 | with_reducible refine obl1 ?_ ?_))
 all_goals (try first | with_reducible exact True.intro | ((first | refine ob_pc hj ?_ | refine ob_pcn hj ?_); (try rw [hj]); first | exact cM | exact cU | exact cI | exact cW) | ((first | refine ob_le hj ?_ | refine ob_lei hj ?_ | refine ob_inb hj ?_ | refine ob_pos hj ?_ | refine ob_ne0 hj ?_ | refine ob_eqb hj ?_); (first | rfl | first | omega | (simp only [hj, std]; split <;> omega) | (simp (disch := omega) only [hj, std, cmpI, cmpB, satB, add64, sub64, ite0, pl0, pl2, pl3, sb0, if_true, if_false, eq_self] <;> omega) | (simp (disch := omega) [hj, std, cmpI, cmpB, satB, add64, sub64, ite0, pl0, pl2, pl3, sb0, if_true, if_false, eq_self] <;> omega))) | (exact rfl))
def bookMS (x_valC : List C → Int → Bool) (x_fitC : List C → Bool) (x_mkC : List C → List C) (x_mkN : List C → Nat) (x_l24C : List C → List C → Int → Bool) : Book := fun f xs => match f, xs with
 | 11, [.v false [.sl _ cs]] => some (ret1 (.st (vB (x_fitC cs))), [])
 | 10, [] => some (ret1 (.st (vB true)), [])
 | 7, [.v false [.sl _ cs]] => some (ret1 (.tree shO (.sl (x_mkN cs) (x_mkC cs)) none), [])
 | 12, [.v false [.sl _ cs], .v false [.val (.int _ t)]] => some (ret1 (.st (vB (x_valC cs t))), [])
 | 13, [.v false [.sl _ cs], .v false [.sl _ ds], .v false [.val (.int _ n)]] => some (ret1 (.st (vB (x_l24C cs ds n))), [])
 | _, _ => none
theorem pc_MiniSame (m : List Sta) (hs0 : m.length ≤ 4398046510976) (hO : ∀ s ∈ m, s.1 ≤ 9223372036854775807) (cA : ∀ a b, MOk a → MOk b → CApart a b 6) : PC Tryd.prog T 3 [.v false [.sl (nM m) (mC m)]] (ret1 (.st (vB true))) [] := by
 rcases Nat.eq_zero_or_pos m.length with h0 | h0
 ·have : m = [] := List.eq_nil_of_length_eq_zero h0
  subst this
  exact pc_MiniSame0
 have cF := c_fits hs0
 have ef : fitC (mC m) = fitsM m := by unfold fitC; rw [stsOf_mC]
 have cW := c_awake25
 have n1 := nM_eq m
 refine pc_of tok Tryd.func3 rfl (by rfl) ?_
 obtain ⟨j, hj⟩ : ∃ j : J, j = std Tryd.prog T := ⟨_, rfl⟩
 have hm : Tryd.prog.follows .mixedOrders = true := by kernel_rfl
 rcases Bool.eq_false_or_eq_true (fitsM m) with hf | hf
 all_goals rw [hf] at ef
 rotate_left
 ·generalize y_valC : @valC = x_valC at *
  generalize y_fitC : @fitC = x_fitC at *
  generalize y_mkC : @mkC = x_mkC at *
  generalize y_mkN : @mkN = x_mkN at *
  generalize y_l24C : @l24C = x_l24C at *
  generalize y_mC : @mC = x_mC at *
  generalize y_nM : @nM = x_nM at *
  (repeat' first | ((first | with_reducible refine tr_cut (fun h => ?_) (fun h => ?_) | refine aw_condj (by cbv) (fun h => ?_) (fun h => ?_)) <;> (try simp (disch := omega) only [hj, std, cmpI, cmpB, satB, Bool.not_eq_true, Bool.not_eq_false, decide_eq_true_eq, decide_eq_false_iff_not, beq_iff_eq, bne_iff_ne, bne_eq_false_iff_eq, beq_eq_false_iff_ne, ne_eq, reduceCtorEq, not_true_eq_false, not_false_eq_true, pl0, if_true, cmpS_eq, cmpS_neq, Bool.not_eq_eq_eq_not, Bool.not_true, Bool.not_false, Bool.not_eq_true', ef, Int.ofNat_eq_natCast, add64, sub64] at h) <;> (try (exfalso; omega))) | (with_reducible refine tr_alt (fun h => ?_) ?_ <;> (try (exfalso; omega))) | (with_reducible first | refine tr_ob ?_ ?_ | refine tr_done ?_) | (refine aw_tr hj tok (bookMS x_valC x_fitC x_mkC x_mkN x_l24C) (by cbv) ?_) | (refine aw_seq fun K hK => ?_) | (refine aw_tr1 hj tok (bookMS x_valC x_fitC x_mkC x_mkN x_l24C) (by cbv) ?_) | (refine aw_skip ?_) | (refine aw_block ?_) | (refine aw_exit ?_) | (refine aw_ret ⟨.inr rfl, ret_okj hj (by cbv) ?_ ?_⟩) | (refine aw_ret ?_) | (with_reducible first | refine th_n ?_ | refine th_r ?_ | refine th_x ?_ | refine blk_n ?_ | refine blk_r ?_ | refine blk_x ?_ | refine blk_y rfl ?_) | (refine ⟨.inr rfl, ret_okj hj (by cbv) ?_ ?_⟩) | (refine ⟨.inl rfl, ret_okj hj (by cbv) ?_ ?_⟩) | (with_reducible apply_assumption -symm -exfalso only [*]))
  all_goals ((try subst y_valC); (try subst y_fitC); (try subst y_mkC); (try subst y_mkN); (try subst y_l24C); (try subst y_mC); (try subst y_nM))
  all_goals (try (repeat' first | with_reducible exact obl0 | (with_reducible refine obl1 ?_ ?_)))
  all_goals (try first | with_reducible exact True.intro | ((first | refine ob_pc hj ?_ | refine ob_pcn hj ?_); (try rw [hj]); first | exact cF | exact cW) | ((first | refine ob_le hj ?_ | refine ob_lei hj ?_ | refine ob_inb hj ?_ | refine ob_pos hj ?_ | refine ob_ne0 hj ?_ | refine ob_eqb hj ?_); (first | rfl | first | omega | (simp only [hj, std]; split <;> omega) | (simp (disch := omega) only [hj, std, cmpI, cmpB, satB, add64, sub64, ite0, pl0, pl2, pl3, sb0, if_true, if_false, eq_self] <;> omega) | (simp (disch := omega) [hj, std, cmpI, cmpB, satB, add64, sub64, ite0, pl0, pl2, pl3, sb0, if_true, if_false, eq_self] <;> omega))) | (exact rfl))
 have hk := mok_of hf hO
 have cM := c_Make hk
 have cV := c_Valid24 (makeM m) 6 hk.szMake
 have cL := c_Like24 (cA m (makeM m) hk hk.make)
 obtain ⟨s1, s2⟩ := make_same hk.v
 have ev : valC (mC (makeM m)) 6 = true := by unfold valC; rw [stsOf_mC]; exact s1
 have el : l24C (mC m) (mC (makeM m)) 6 = true := by unfold l24C; rw [stsOf_mC, stsOf_mC]; exact s2
 have hl : nM (makeM m) ≤ nM m := by rw [nM_eq, nM_eq]; exact (makeM_sz hk.v hk.e).1
 rw [← (mk_eq m).1] at cV cL ev el
 rw [← (mk_eq m).2] at cV cL hl
 clear s1 s2 hs0 hO hf cA
 generalize y_valC : @valC = x_valC at *
 generalize y_fitC : @fitC = x_fitC at *
 generalize y_mkC : @mkC = x_mkC at *
 generalize y_mkN : @mkN = x_mkN at *
 generalize y_l24C : @l24C = x_l24C at *
 generalize y_mC : @mC = x_mC at *
 generalize y_nM : @nM = x_nM at *
 (repeat' first | ((first | with_reducible refine tr_cut (fun h => ?_) (fun h => ?_) | refine aw_condj (by cbv) (fun h => ?_) (fun h => ?_)) <;> (try simp (disch := omega) only [hj, std, cmpI, cmpB, satB, Bool.not_eq_true, Bool.not_eq_false, decide_eq_true_eq, decide_eq_false_iff_not, beq_iff_eq, bne_iff_ne, bne_eq_false_iff_eq, beq_eq_false_iff_ne, ne_eq, reduceCtorEq, not_true_eq_false, not_false_eq_true, pl0, if_true, cmpS_eq, cmpS_neq, Bool.not_eq_eq_eq_not, Bool.not_true, Bool.not_false, Bool.not_eq_true', ef, ev, el, Int.ofNat_eq_natCast, add64, sub64] at h) <;> (try (exfalso; omega))) | (with_reducible refine tr_alt (fun h => ?_) ?_ <;> (try (exfalso; omega))) | (with_reducible first | refine tr_ob ?_ ?_ | refine tr_done ?_) | (refine aw_tr hj tok (bookMS x_valC x_fitC x_mkC x_mkN x_l24C) (by cbv) ?_) | (refine aw_seq fun K hK => ?_) | (refine aw_tr1 hj tok (bookMS x_valC x_fitC x_mkC x_mkN x_l24C) (by cbv) ?_) | (refine aw_skip ?_) | (refine aw_block ?_) | (refine aw_exit ?_) | (refine aw_ret ⟨.inr rfl, ret_okj hj (by cbv) ?_ ?_⟩) | (refine aw_ret ?_) | (with_reducible first | refine th_n ?_ | refine th_r ?_ | refine th_x ?_ | refine blk_n ?_ | refine blk_r ?_ | refine blk_x ?_ | refine blk_y rfl ?_) | (refine ⟨.inr rfl, ret_okj hj (by cbv) ?_ ?_⟩) | (refine ⟨.inl rfl, ret_okj hj (by cbv) ?_ ?_⟩) | (with_reducible apply_assumption -symm -exfalso only [*]))
 all_goals ((try subst y_valC); (try subst y_fitC); (try subst y_mkC); (try subst y_mkN); (try subst y_l24C); (try subst y_mC); (try subst y_nM))
 all_goals (try (repeat' first | with_reducible exact obl0 | with_reducible refine obl1 ?_ ?_))
 all_goals (try first | with_reducible exact True.intro | ((first | refine ob_pc hj ?_ | refine ob_pcn hj ?_); (try rw [hj]); first | exact cF | exact cM | exact cV | exact cL | exact cW) | ((first | refine ob_le hj ?_ | refine ob_lei hj ?_ | refine ob_inb hj ?_ | refine ob_pos hj ?_ | refine ob_ne0 hj ?_ | refine ob_eqb hj ?_); (first | rfl | first | omega | (simp only [hj, std]; split <;> omega) | (simp (disch := omega) only [hj, std, cmpI, cmpB, satB, add64, sub64, ite0, pl0, pl2, pl3, sb0, if_true, if_false, eq_self] <;> omega) | (simp (disch := omega) [hj, std, cmpI, cmpB, satB, add64, sub64, ite0, pl0, pl2, pl3, sb0, if_true, if_false, eq_self] <;> omega))) | (exact rfl))
end Go.Proofs.YtcpcghnpoekhpaaDoor.A
/- MiniSame: the walk, as the row's step asks for it. -/
set_option linter.unusedSimpArgs false
set_option linter.unusedVariables false
set_option maxRecDepth 100000
set_option maxHeartbeats 4000000
namespace Go.Proofs.YtcpcghnpoekhpaaDoor
open Go Go.RowKit
theorem miniSame_walk (w : World) (a : Option Addr) (len cap : Nat) (m : List A.Sta) (R : A.RMac w (Value.slice a len cap).cells.toList m) (htab : A.Gnd w (fun b => b < w.heap.size)) : Calls Tryd.prog 3 #[.slice a len cap] w fun e w' => e = .returned (.bool true) ∧ Below w.heap.size w w' :=
 A.walk_of_pc (vs := [.slice a len cap]) (A.pc_MiniSame m (A.mac_sz R).1 (A.mac_bound R) fun _ _ h h' => A.c_Apart h h') (by simp [A.Arg.asRoot]) (fun b => b < w.heap.size) (fun _ h => h) rfl (mac_rep R) rfl htab
end Go.Proofs.YtcpcghnpoekhpaaDoor
