/- What TrieRuns needs beyond, part 1. -/
import Derived.Test.YtcpcghnpoekhpaaMz5
import Derived.WalkKit
import Derived.WalkSpells
import Derived.WalkLawsBesides
import Derived.Lib.Hide
import Derived.Laws.AppendOwnNone
import Derived.Laws.CopyOwn
import Derived.BigQuiet
import Derived.Deep.QuietTactic
import Derived.Deep.RegionHeld3
import Derived.Deep.AppendLies
import Derived.OrdersHeld
import Derived.MapKept
import Derived.Laws.StructEq
import Derived.Great.BuildSlice
import Derived.Laws.IdiomStrings
import Derived.Lib.AppendZeros
import Derived.RangeFuncIn
import Derived.OwnWalkIn
import Derived.RangeFuncNested
import Derived.RangeFuncLeaves
import Derived.ProofKit
import Derived.OpenShut
import Derived.SizedLaws
import Derived.Deep.Slices
import Derived.Deep.Strs
import Derived.Lib.Bytealg
import Derived.Sort.Walk0
import Derived.RangeFuncRecord
import Derived.Test.YtcpcghnpoekhpaaProg
import Derived.RangeFuncBound
import Derived.RangeFuncCalls
import Derived.Shelf.Abstract
import Derived.Shelf.RegionOpen
import Derived.TacticsInMore
import Derived.LoopNIn
import Derived.LoopIn
import Derived.Lib.Small
import Derived.Sort.Statements
import Derived.Shelf.SlGeneric
import Derived.Shelf.Small.Strs
import Derived.Shelf.Small.Wraps
import Derived.Shelf.SlSortCmp.NoneTotal
import Derived.Ground.SlsfProg
import Derived.Lib.OwnBridge
import Derived.Maps.Range
/- The ghost machine: a nil slice is an empty one, too; contracts at such arguments. -/
set_option linter.unusedSimpArgs false
set_option linter.unusedVariables false
set_option maxRecDepth 100000
set_option maxHeartbeats 4000000
namespace Go.Proofs.Ytcpcghnpoekhpaa.A
open Go
theorem pc_le {P : Program} {T : TT} {f : FuncId} {x y : List Arg} {ret : RV} {upd : List Root} (h : PC P T f y ret upd) (hl : LeAs x y) : PC P T f x ret upd := by
 intro w S bx ph vs hh hv ha
 rw [hl.roots] at hh ⊢
 exact h w S bx ph vs hh (hv.trans hl.reals) fun i h1 h2 => (hl.at i (by rw [hl.len]; exact h1) h1).rep (ha i (by rw [hl.len]; exact h1) h2)
end Go.Proofs.Ytcpcghnpoekhpaa.A
/- Readings of structs whose fields take one cell each. No program in sight. -/
set_option linter.unusedSimpArgs false
set_option linter.unusedVariables false
set_option maxRecDepth 100000
set_option maxHeartbeats 4000000
namespace Go.Proofs.Ytcpcghnpoekhpaa
open Go.RowKit Go.ChangeShapes Go.WideShapes Go.ChangeAt
def RRec2 {α β : Type} (A : Rd α) (B : Rd β) : Rd (α × β) := fun w cs x => ∃ c0 c1, cs = [c0, c1] ∧ A w [c0] x.1 ∧ B w [c1] x.2
section
variable {H : Type} {enc : TypeId × Value → H} {P : Program} {w : World}
theorem lk_rec2 {α β : Type} {A : Rd α} {B : Rd β} {t : TypeId} {f0 f1 : Field} (ht : P.underlying t = some (.struct #[f0, f1])) (ho : (f0.offset, f1.offset, P.cellsOf f0.type, P.cellsOf f1.type, P.cellsOf t) = (0, 1, 1, 1, 2))
  (ha : Lk enc P w f0.type A) (hb : Lk enc P w f1.type B) : Lk enc P w t (RRec2 A B) := by
 intro fuel cs x h hz
 simp only [Prod.mk.injEq] at ho
 obtain ⟨o0, o1, k0, k1, k⟩ := ho
 have hl := lk_len ht h
 rw [k] at hl
 match cs, hl with
 | [c0, c1], _ =>
  obtain ⟨a, h0⟩ := lk_fld ht 0 f0 rfl ha _ _ _ h hz
  obtain ⟨b, h1⟩ := lk_fld ht 1 f1 rfl hb _ _ _ h hz
  rw [o0, k0] at h0; rw [o1, k1] at h1
  exact ⟨(a, b), c0, c1, rfl, h0, h1⟩
end
end Go.Proofs.Ytcpcghnpoekhpaa
/- The ghost machine: structs that came in, as9 cells. -/
set_option linter.unusedSimpArgs false
set_option linter.unusedVariables false
set_option maxRecDepth 100000
set_option maxHeartbeats 4000000
namespace Go.Proofs.Ytcpcghnpoekhpaa.A
open Go
theorem rdc_rec2 {α β : Type} {A : Rd α} {B : Rd β} {f : α → List C} {g : β → List C} (ha : RdC A f) (hb : RdC B g) : RdC (RRec2 A B) fun x => f x.1 ++ g x.2 := by
 rintro w cs x ⟨c0, c1, rfl, h1, h2⟩
 exact rdc_pair (s1 := 1) (s2 := 1) ha hb w _ x ⟨[c0], [c1], rfl, rfl, rfl, h1, h2⟩
end Go.Proofs.Ytcpcghnpoekhpaa.A
/- Machines as9 cells: states with their edges. -/
set_option linter.unusedSimpArgs false
set_option linter.unusedVariables false
set_option maxRecDepth 100000
set_option maxHeartbeats 4000000
namespace Go.Proofs.Ytcpcghnpoekhpaa.A
open Go
/-! ### which machines may be -/
theorem pc_rising (l : List Eg) (terms n : Int) (hl : l.length ≤ 1000000000) : PC Try.prog T 28 [.v false [.sl (nE l) (eC l)], .v false [vI terms], .v false [vI n]] (ret1 (.st (vB (riseM l terms n)))) [] := by
 have hn := nE_eq l
 have hc := eC_len l
 have ha := eC_at l
 have hd := @drop_eg l
 have hr0 : riseM l terms n = riseG terms n (-1) l := rfl
 generalize riseM l terms n = R at hr0
 refine pc_of tok Try.func28 rfl (by rfl) ?_
 obtain ⟨j, hj⟩ : ∃ j : J, j = std Try.prog T := ⟨_, rfl⟩
 have hm : Try.prog.follows .mixedOrders = true := by kernel_rfl
 generalize y_eC : @eC = x_eC at *
 generalize y_nE : @nE = x_nE at *
 (repeat' first | ((first | with_reducible refine tr_cut (fun h => ?_) (fun h => ?_) | refine aw_condj (by cbv) (fun h => ?_) (fun h => ?_)) <;> (try simp (disch := omega) only [hj, std, cmpI, cmpB, satB, Bool.not_eq_true, Bool.not_eq_false, decide_eq_true_eq, decide_eq_false_iff_not, beq_iff_eq, bne_iff_ne, bne_eq_false_iff_eq, beq_eq_false_iff_ne, ne_eq, reduceCtorEq, not_true_eq_false, not_false_eq_true, pl0, if_true, cmpS_eq, cmpS_neq, Bool.not_eq_eq_eq_not, Bool.not_true, Bool.not_false, Bool.not_eq_true', add64, sub64] at h) <;> (try (exfalso; omega))) | (with_reducible refine tr_alt (fun h => ?_) ?_ <;> (try (exfalso; omega))) | (with_reducible first | refine tr_ob ?_ ?_ | refine tr_done ?_) | (refine aw_tr hj tok book0 (by cbv) ?_) | (refine aw_seq fun K hK => ?_) | (refine aw_tr1 hj tok book0 (by cbv) ?_) | (refine aw_skip ?_) | (refine aw_block ?_) | (refine aw_exit ?_) | (refine aw_ret ⟨.inr rfl, ret_okj hj (by cbv) ?_ ?_⟩) | (refine aw_ret ?_) | (with_reducible first | refine th_n ?_ | refine th_r ?_ | refine th_x ?_ | refine blk_n ?_ | refine blk_r ?_ | refine blk_x ?_ | refine blk_y rfl ?_) | (refine ⟨.inr rfl, ret_okj hj (by cbv) ?_ ?_⟩) | (refine ⟨.inl rfl, ret_okj hj (by cbv) ?_ ?_⟩) | (with_reducible first | refine ⟨(_, _), by cbv, ?_, ?_⟩ | refine ⟨_, by cbv, ?_, ?_⟩) | (with_reducible apply_assumption -symm -exfalso only [*]))
 all_goals ((try subst y_eC); (try subst y_nE))
 all_goals (try (repeat' first | with_reducible exact obl0 | (with_reducible refine obl1 ?_ ?_)))
 all_goals (try first | with_reducible exact True.intro | ((first | refine ob_le hj ?_ | refine ob_lei hj ?_ | refine ob_inb hj ?_ | refine ob_pos hj ?_ | refine ob_ne0 hj ?_ | refine ob_eqb hj ?_); (first | rfl | first | omega | (simp only [hj, std]; split <;> omega) | (simp (disch := omega) only [hj, std, cmpI, cmpB, satB, add64, sub64, ite0, pl0, pl2, pl3, sb0, if_true, if_false, eq_self] <;> omega) | (simp (disch := omega) [hj, std, cmpI, cmpB, satB, add64, sub64, ite0, pl0, pl2, pl3, sb0, if_true, if_false, eq_self] <;> omega))))
 refine aw_lpj hj [(0, .keep), (1, .keep), (2, .keep), (7, .keep), (10, .keep), (11, .keep), (12, .keep)] [] (fun (⟨k, q⟩ : Int × Int) => stOf 40 [(0, .one (.c (.sl (nE l) (eC l)))), (1, .one (.c (vI terms))), (2, .one (.c (vI n))), (7, .one (.c (vI q))), (10, .one (.c (.sl (nE l) (eC l)))), (11, .one (.c (vI (j.ofNat (nE l))))), (12, .one (.c (vI k)))] []) (fun (⟨k, q⟩ : Int × Int) => nE l - k.toNat) (fun (⟨k, q⟩ : Int × Int) => 0 ≤ k ∧ k ≤ nE l ∧ R = riseG terms n q (l.drop k.toNat)) ((0, -1)) (by generalize @eC = x_eC; generalize @nE = x_nE; cbv) ?_ (fun ⟨k, q⟩ hI => ?_)
 ·exact ⟨by omega, by omega, hr0⟩
 obtain ⟨i1, i2, hI⟩ := hI
 rcases Decidable.em (k < (nE l : Int)) with hk | hk
 ·obtain ⟨c0, c1⟩ := ha k.toNat (by omega)
  have f1 : (k + 1).toNat = k.toNat + 1 := by omega
  rw [hd (k := k.toNat) (by omega), ← f1] at hI
  have g0 : gi (cellAt (eC l) (k.toNat * 2)) = (eAt l k.toNat).1 := by rw [c0]; rfl
  have g1 : gi (cellAt (eC l) (k.toNat * 2 + 1)) = (eAt l k.toNat).2 := by rw [c1]; rfl
  generalize eAt l k.toNat = X at *
  obtain ⟨a, b⟩ := X
  dsimp only at c0 c1 g0 g1
  have hI2 : R = if q < a ∧ a < terms ∧ 0 ≤ b ∧ b < n then riseG terms n a (l.drop (k + 1).toNat) else false := hI
  have hyes : (q < a ∧ a < terms ∧ 0 ≤ b ∧ b < n) → R = riseG terms n a (l.drop (k + 1).toNat) := fun h => by rw [hI2, if_pos h]
  have hno : ¬ (q < a ∧ a < terms ∧ 0 ≤ b ∧ b < n) → R = false := fun h => by rw [hI2, if_neg h]
  clear hI hI2 ha hd
  generalize y_eC : @eC = x_eC at *
  generalize y_nE : @nE = x_nE at *
  (repeat' first | ((first | with_reducible refine tr_cut (fun h => ?_) (fun h => ?_) | refine aw_condj (by cbv) (fun h => ?_) (fun h => ?_)) <;> (try simp (disch := omega) only [hj, std, cmpI, cmpB, satB, Bool.not_eq_true, Bool.not_eq_false, decide_eq_true_eq, decide_eq_false_iff_not, beq_iff_eq, bne_iff_ne, bne_eq_false_iff_eq, beq_eq_false_iff_ne, ne_eq, reduceCtorEq, not_true_eq_false, not_false_eq_true, pl0, if_true, cmpS_eq, cmpS_neq, Bool.not_eq_eq_eq_not, Bool.not_true, Bool.not_false, Bool.not_eq_true', g0, g1, ite0, add64, sub64] at h) <;> (try (exfalso; omega))) | (with_reducible refine tr_alt (fun h => ?_) ?_ <;> (try (exfalso; omega))) | (with_reducible first | refine tr_ob ?_ ?_ | refine tr_done ?_) | (refine aw_tr hj tok book0 (by cbv) ?_) | (refine aw_seq fun K hK => ?_) | (refine aw_tr1 hj tok book0 (by cbv) ?_) | (refine aw_skip ?_) | (refine aw_block ?_) | (refine aw_exit ?_) | (refine aw_ret ⟨.inr rfl, ret_okj hj (by cbv) ?_ ?_⟩) | (refine aw_ret ?_) | (with_reducible first | refine th_n ?_ | refine th_r ?_ | refine th_x ?_ | refine blk_n ?_ | refine blk_r ?_ | refine blk_x ?_ | refine blk_y rfl ?_) | (refine ⟨.inr rfl, ret_okj hj (by cbv) ?_ ?_⟩) | (refine ⟨.inl rfl, ret_okj hj (by cbv) ?_ ?_⟩) | (with_reducible first | refine ⟨(_, _), by cbv, ?_, ?_⟩ | refine ⟨_, by cbv, ?_, ?_⟩) | (with_reducible apply_assumption -symm -exfalso only [*]))
  all_goals ((try subst y_eC); (try subst y_nE))
  all_goals (try (repeat' first | with_reducible exact obl0 | (with_reducible refine obl1 ?_ ?_)))
  all_goals (try first | with_reducible exact True.intro | ((first | refine ob_le hj ?_ | refine ob_lei hj ?_ | refine ob_inb hj ?_ | refine ob_pos hj ?_ | refine ob_ne0 hj ?_ | refine ob_eqb hj ?_); (first | rfl | first | omega | (simp only [hj, std]; split <;> omega) | (simp (disch := omega) only [hj, std, cmpI, cmpB, satB, add64, sub64, ite0, pl0, pl2, pl3, sb0, if_true, if_false, eq_self, hc, g0, g1] <;> omega) | (simp (disch := omega) [hj, std, cmpI, cmpB, satB, add64, sub64, ite0, pl0, pl2, pl3, sb0, if_true, if_false, eq_self, hc, g0, g1] <;> omega))) | ((refine ob_ok hj ?_; (try rw [hj]); simp only [std, ite0]; first | exact ⟨_, c0⟩ | exact ⟨_, c1⟩)) | ((rw [hno (by omega)]; exact rfl)) | ((simp (disch := omega) only [hj, std, add64, ite0, g0, g1]; first | omega | exact ⟨by omega, by omega, hyes (by omega)⟩)))
 ·have e : k.toNat = l.length := by omega
  rw [e, List.drop_length] at hI
  have hI : R = true := hI
  generalize y_eC : @eC = x_eC at *
  generalize y_nE : @nE = x_nE at *
  (repeat' first | ((first | with_reducible refine tr_cut (fun h => ?_) (fun h => ?_) | refine aw_condj (by cbv) (fun h => ?_) (fun h => ?_)) <;> (try simp (disch := omega) only [hj, std, cmpI, cmpB, satB, Bool.not_eq_true, Bool.not_eq_false, decide_eq_true_eq, decide_eq_false_iff_not, beq_iff_eq, bne_iff_ne, bne_eq_false_iff_eq, beq_eq_false_iff_ne, ne_eq, reduceCtorEq, not_true_eq_false, not_false_eq_true, pl0, if_true, cmpS_eq, cmpS_neq, Bool.not_eq_eq_eq_not, Bool.not_true, Bool.not_false, Bool.not_eq_true', add64, sub64] at h) <;> (try (exfalso; omega))) | (with_reducible refine tr_alt (fun h => ?_) ?_ <;> (try (exfalso; omega))) | (with_reducible first | refine tr_ob ?_ ?_ | refine tr_done ?_) | (refine aw_tr hj tok book0 (by cbv) ?_) | (refine aw_seq fun K hK => ?_) | (refine aw_tr1 hj tok book0 (by cbv) ?_) | (refine aw_skip ?_) | (refine aw_block ?_) | (refine aw_exit ?_) | (refine aw_ret ⟨.inr rfl, ret_okj hj (by cbv) ?_ ?_⟩) | (refine aw_ret ?_) | (with_reducible first | refine th_n ?_ | refine th_r ?_ | refine th_x ?_ | refine blk_n ?_ | refine blk_r ?_ | refine blk_x ?_ | refine blk_y rfl ?_) | (refine ⟨.inr rfl, ret_okj hj (by cbv) ?_ ?_⟩) | (refine ⟨.inl rfl, ret_okj hj (by cbv) ?_ ?_⟩) | (with_reducible first | refine ⟨(_, _), by cbv, ?_, ?_⟩ | refine ⟨_, by cbv, ?_, ?_⟩) | (with_reducible apply_assumption -symm -exfalso only [*]))
  all_goals ((try subst y_eC); (try subst y_nE))
  all_goals (try (repeat' first | with_reducible exact obl0 | with_reducible refine obl1 ?_ ?_))
  all_goals (try first | with_reducible exact True.intro | ((first | refine ob_le hj ?_ | refine ob_lei hj ?_ | refine ob_inb hj ?_ | refine ob_pos hj ?_ | refine ob_ne0 hj ?_ | refine ob_eqb hj ?_); (first | rfl | first | omega | (simp only [hj, std]; split <;> omega) | (simp (disch := omega) only [hj, std, cmpI, cmpB, satB, add64, sub64, ite0, pl0, pl2, pl3, sb0, if_true, if_false, eq_self] <;> omega) | (simp (disch := omega) [hj, std, cmpI, cmpB, satB, add64, sub64, ite0, pl0, pl2, pl3, sb0, if_true, if_false, eq_self] <;> omega))) | ((rw [hI]; exact rfl)))
end Go.Proofs.Ytcpcghnpoekhpaa.A
/- Machines: which may be; the small functions of the reference. -/
set_option linter.unusedSimpArgs false
set_option linter.unusedVariables false
set_option maxRecDepth 100000
set_option maxHeartbeats 4000000
namespace Go.Proofs.Ytcpcghnpoekhpaa.A
open Go
def riseC (cs : List C) (terms n : Int) : Bool := riseM (egsOf cs) terms n
def bookM1 (x_riseC : List C → Int → Int → Bool) : Book := fun f xs => match f, xs with
 | 28, [.v false [.sl _ cs], .v false [.val (.int _ t)], .v false [.val (.int _ q)]] => some (ret1 (.st (vB (x_riseC cs t q))), [])
 | _, _ => none
theorem c_rising (l : List Eg) (terms n : Int) (hl : l.length ≤ 1000000000) : pc 28 [.v false [.sl (nE l) (eC l)], .v false [vI terms], .v false [vI n]] (ret1 (.st (vB (riseC (eC l) terms n)))) := by
 refine ⟨enters Try.func28 (by kernel_rfl) (by kernel_rfl), ?_⟩
 unfold riseC; rw [egsOf_eC]; exact pc_rising l terms n hl
theorem pc_ValidT (m : List Sta) (terms : Int) (hs : SzM m) : PC Try.prog T 16 [.v false [.sl (nM m) (mC m)], .v false [vI terms]] (ret1 (.st (vB (validM m terms)))) [] := by
 have hn := nM_eq m
 have hc := mC_len m
 have ha := mC_at m
 have hd := @drop_st m
 have hz := @SzM.at m hs
 have hm := hs.1
 have hr0 : validM m terms = (validG terms (nM m) m && decide (0 < nM m)) := by rw [hn]; rfl
 generalize hR : validM m terms = R at hr0
 clear hR
 refine pc_of tok Try.func16 rfl (by rfl) ?_
 obtain ⟨j, hj⟩ : ∃ j : J, j = std Try.prog T := ⟨_, rfl⟩
 have hm : Try.prog.follows .mixedOrders = true := by kernel_rfl
 generalize y_riseC : @riseC = x_riseC at *
 generalize y_validG : @validG = x_validG at *
 generalize y_eC : @eC = x_eC at *
 generalize y_nE : @nE = x_nE at *
 generalize y_mC : @mC = x_mC at *
 generalize y_nM : @nM = x_nM at *
 (repeat' first | ((first | with_reducible refine tr_cut (fun h => ?_) (fun h => ?_) | refine aw_condj (by cbv) (fun h => ?_) (fun h => ?_)) <;> (try simp (disch := omega) only [hj, std, cmpI, cmpB, satB, Bool.not_eq_true, Bool.not_eq_false, decide_eq_true_eq, decide_eq_false_iff_not, beq_iff_eq, bne_iff_ne, bne_eq_false_iff_eq, beq_eq_false_iff_ne, ne_eq, reduceCtorEq, not_true_eq_false, not_false_eq_true, pl0, if_true, cmpS_eq, cmpS_neq, Bool.not_eq_eq_eq_not, Bool.not_true, Bool.not_false, Bool.not_eq_true', add64, sub64] at h) <;> (try (exfalso; omega))) | (with_reducible refine tr_alt (fun h => ?_) ?_ <;> (try (exfalso; omega))) | (with_reducible first | refine tr_ob ?_ ?_ | refine tr_done ?_) | (refine aw_tr hj tok (bookM1 x_riseC) (by cbv) ?_) | (refine aw_seq fun K hK => ?_) | (refine aw_tr1 hj tok (bookM1 x_riseC) (by cbv) ?_) | (refine aw_skip ?_) | (refine aw_block ?_) | (refine aw_exit ?_) | (refine aw_ret ⟨.inr rfl, ret_okj hj (by cbv) ?_ ?_⟩) | (refine aw_ret ?_) | (with_reducible first | refine th_n ?_ | refine th_r ?_ | refine th_x ?_ | refine blk_n ?_ | refine blk_r ?_ | refine blk_x ?_ | refine blk_y rfl ?_) | (refine ⟨.inr rfl, ret_okj hj (by cbv) ?_ ?_⟩) | (refine ⟨.inl rfl, ret_okj hj (by cbv) ?_ ?_⟩) | (with_reducible refine ⟨_, by cbv, ?_, ?_⟩) | (with_reducible apply_assumption -symm -exfalso only [*]))
 all_goals ((try subst y_riseC); (try subst y_validG); (try subst y_eC); (try subst y_nE); (try subst y_mC); (try subst y_nM))
 all_goals (try (repeat' first | with_reducible exact obl0 | (with_reducible refine obl1 ?_ ?_)))
 all_goals (try first | with_reducible exact True.intro | ((first | refine ob_le hj ?_ | refine ob_lei hj ?_ | refine ob_inb hj ?_ | refine ob_pos hj ?_ | refine ob_ne0 hj ?_ | refine ob_eqb hj ?_); (first | rfl | first | omega | (simp only [hj, std]; split <;> omega) | (simp (disch := omega) only [hj, std, cmpI, cmpB, satB, add64, sub64, ite0, pl0, pl2, pl3, sb0, if_true, if_false, eq_self] <;> omega) | (simp (disch := omega) [hj, std, cmpI, cmpB, satB, add64, sub64, ite0, pl0, pl2, pl3, sb0, if_true, if_false, eq_self] <;> omega))))
 refine aw_lpj hj [(0, .keep), (1, .keep), (7, .keep), (8, .keep), (9, .keep)] [] (fun (k : Int) => stOf 29 [(0, .one (.c (.sl (nM m) (mC m)))), (1, .one (.c (vI terms))), (7, .one (.c (.sl (nM m) (mC m)))), (8, .one (.c (vI (j.ofNat (nM m))))), (9, .one (.c (vI k)))] []) (fun (k : Int) => nM m - k.toNat) (fun (k : Int) => 0 ≤ k ∧ k ≤ nM m ∧ R = (validG terms (nM m) (m.drop k.toNat) && decide (0 < nM m))) (0) (by generalize @riseC = x_riseC; generalize @validG = x_validG; generalize @eC = x_eC; generalize @nE = x_nE; generalize @mC = x_mC; generalize @nM = x_nM; cbv) ?_ (fun k hI => ?_)
 ·exact ⟨by omega, by omega, hr0⟩
 obtain ⟨i1, i2, hI⟩ := hI
 rcases Decidable.em (k < (nM m : Int)) with hk | hk
 ·obtain ⟨c0, c1⟩ := ha k.toNat (by omega)
  have hz := hz (k := k.toNat) (by omega)
  have f1 : (k + 1).toNat = k.toNat + 1 := by omega
  rw [hd (k := k.toNat) (by omega), ← f1] at hI
  have cR := c_rising (mAt m k.toNat).2 terms (nM m) hz
  have g0 : gi (cellAt (mC m) (k.toNat * 2)) = (mAt m k.toNat).1 := by rw [c0]; rfl
  have g1 : gn (cellAt (mC m) (k.toNat * 2 + 1)) = nE (mAt m k.toNat).2 := by rw [c1]; rfl
  have g2 : gc (cellAt (mC m) (k.toNat * 2 + 1)) = eC (mAt m k.toNat).2 := by rw [c1]; rfl
  have e1 : riseC (eC (mAt m k.toNat).2) terms (nM m) = riseM (mAt m k.toNat).2 terms (nM m) := by unfold riseC; rw [egsOf_eC]
  generalize mAt m k.toNat = X at *
  obtain ⟨a, b⟩ := X
  dsimp only at c0 c1 g0 g1 g2 e1 cR
  have hI2 : R = ((if -1 ≤ a ∧ riseM b terms (nM m) = true then validG terms (nM m) (m.drop (k + 1).toNat) else false) && decide (0 < nM m)) := hI
  rw [← e1] at hI2
  have hyes : -1 ≤ a → riseC (eC b) terms (nM m) = true → R = (validG terms (nM m) (m.drop (k + 1).toNat) && decide (0 < nM m)) := fun h h2 => by rw [hI2, if_pos ⟨h, h2⟩]
  have hno : a < -1 → R = false := fun h => by rw [hI2, if_neg (fun h2 => by omega)]; rfl
  have hno2 : riseC (eC b) terms (nM m) = false → R = false := fun h => by rw [hI2, if_neg (fun h2 => by rw [h] at h2; cases h2.2)]; rfl
  clear hI hI2 ha hd e1
  generalize y_riseC : @riseC = x_riseC at *
  generalize y_validG : @validG = x_validG at *
  generalize y_eC : @eC = x_eC at *
  generalize y_nE : @nE = x_nE at *
  generalize y_mC : @mC = x_mC at *
  generalize y_nM : @nM = x_nM at *
  (repeat' first | ((first | with_reducible refine tr_cut (fun h => ?_) (fun h => ?_) | refine aw_condj (by cbv) (fun h => ?_) (fun h => ?_)) <;> (try simp (disch := omega) only [hj, std, cmpI, cmpB, satB, Bool.not_eq_true, Bool.not_eq_false, decide_eq_true_eq, decide_eq_false_iff_not, beq_iff_eq, bne_iff_ne, bne_eq_false_iff_eq, beq_eq_false_iff_ne, ne_eq, reduceCtorEq, not_true_eq_false, not_false_eq_true, pl0, if_true, cmpS_eq, cmpS_neq, Bool.not_eq_eq_eq_not, Bool.not_true, Bool.not_false, Bool.not_eq_true', g0, g1, g2, ite0, add64, sub64] at h) <;> (try (exfalso; omega))) | (with_reducible refine tr_alt (fun h => ?_) ?_ <;> (try (exfalso; omega))) | (with_reducible first | refine tr_ob ?_ ?_ | refine tr_done ?_) | (refine aw_tr hj tok (bookM1 x_riseC) (by cbv) ?_) | (refine aw_seq fun K hK => ?_) | (refine aw_tr1 hj tok (bookM1 x_riseC) (by cbv) ?_) | (refine aw_skip ?_) | (refine aw_block ?_) | (refine aw_exit ?_) | (refine aw_ret ⟨.inr rfl, ret_okj hj (by cbv) ?_ ?_⟩) | (refine aw_ret ?_) | (with_reducible first | refine th_n ?_ | refine th_r ?_ | refine th_x ?_ | refine blk_n ?_ | refine blk_r ?_ | refine blk_x ?_ | refine blk_y rfl ?_) | (refine ⟨.inr rfl, ret_okj hj (by cbv) ?_ ?_⟩) | (refine ⟨.inl rfl, ret_okj hj (by cbv) ?_ ?_⟩) | (with_reducible refine ⟨_, by cbv, ?_, ?_⟩) | (with_reducible apply_assumption -symm -exfalso only [*]))
  all_goals ((try subst y_riseC); (try subst y_validG); (try subst y_eC); (try subst y_nE); (try subst y_mC); (try subst y_nM))
  all_goals (try (repeat' first | with_reducible exact obl0 | (with_reducible refine obl1 ?_ ?_)))
  all_goals (try first | with_reducible exact True.intro | ((first | refine ob_pc hj ?_ | refine ob_pcn hj ?_); (try rw [hj]); first | exact cR | (simp only [std, g1, g2]; exact cR)) | ((first | refine ob_le hj ?_ | refine ob_lei hj ?_ | refine ob_inb hj ?_ | refine ob_pos hj ?_ | refine ob_ne0 hj ?_ | refine ob_eqb hj ?_); (first | rfl | first | omega | (simp only [hj, std]; split <;> omega) | (simp (disch := omega) only [hj, std, cmpI, cmpB, satB, add64, sub64, ite0, pl0, pl2, pl3, sb0, if_true, if_false, eq_self, hc, g0, g1, g2] <;> omega) | (simp (disch := omega) [hj, std, cmpI, cmpB, satB, add64, sub64, ite0, pl0, pl2, pl3, sb0, if_true, if_false, eq_self, hc, g0, g1, g2] <;> omega))) | ((refine ob_ok hj ?_; (try rw [hj]); simp only [std, ite0]; first | exact ⟨_, c0⟩ | exact .inr ⟨_, _, c1⟩)) | ((rw [hno (by omega)]; exact rfl)) | ((rw [hno2 (by assumption)]; exact rfl)) | ((simp (disch := omega) only [hj, std, add64, ite0, g0, g1]; first | omega | exact ⟨by omega, by omega, hyes (by omega) (by assumption)⟩)))
 ·have e : k.toNat = m.length := by omega
  rw [e, List.drop_length] at hI
  have hE : R = decide (0 < nM m) := hI
  generalize y_riseC : @riseC = x_riseC at *
  generalize y_validG : @validG = x_validG at *
  generalize y_eC : @eC = x_eC at *
  generalize y_nE : @nE = x_nE at *
  generalize y_mC : @mC = x_mC at *
  generalize y_nM : @nM = x_nM at *
  (repeat' first | ((first | with_reducible refine tr_cut (fun h => ?_) (fun h => ?_) | refine aw_condj (by cbv) (fun h => ?_) (fun h => ?_)) <;> (try simp (disch := omega) only [hj, std, cmpI, cmpB, satB, Bool.not_eq_true, Bool.not_eq_false, decide_eq_true_eq, decide_eq_false_iff_not, beq_iff_eq, bne_iff_ne, bne_eq_false_iff_eq, beq_eq_false_iff_ne, ne_eq, reduceCtorEq, not_true_eq_false, not_false_eq_true, pl0, if_true, cmpS_eq, cmpS_neq, Bool.not_eq_eq_eq_not, Bool.not_true, Bool.not_false, Bool.not_eq_true', add64, sub64] at h) <;> (try (exfalso; omega))) | (with_reducible refine tr_alt (fun h => ?_) ?_ <;> (try (exfalso; omega))) | (with_reducible first | refine tr_ob ?_ ?_ | refine tr_done ?_) | (refine aw_tr hj tok (bookM1 x_riseC) (by cbv) ?_) | (refine aw_seq fun K hK => ?_) | (refine aw_tr1 hj tok (bookM1 x_riseC) (by cbv) ?_) | (refine aw_skip ?_) | (refine aw_block ?_) | (refine aw_exit ?_) | (refine aw_ret ⟨.inr rfl, ret_okj hj (by cbv) ?_ ?_⟩) | (refine aw_ret ?_) | (with_reducible first | refine th_n ?_ | refine th_r ?_ | refine th_x ?_ | refine blk_n ?_ | refine blk_r ?_ | refine blk_x ?_ | refine blk_y rfl ?_) | (refine ⟨.inr rfl, ret_okj hj (by cbv) ?_ ?_⟩) | (refine ⟨.inl rfl, ret_okj hj (by cbv) ?_ ?_⟩) | (with_reducible refine ⟨_, by cbv, ?_, ?_⟩) | (with_reducible apply_assumption -symm -exfalso only [*]))
  all_goals ((try subst y_riseC); (try subst y_validG); (try subst y_eC); (try subst y_nE); (try subst y_mC); (try subst y_nM))
  all_goals (try (repeat' first | with_reducible exact obl0 | with_reducible refine obl1 ?_ ?_))
  all_goals (try first | with_reducible exact True.intro | ((first | refine ob_le hj ?_ | refine ob_lei hj ?_ | refine ob_inb hj ?_ | refine ob_pos hj ?_ | refine ob_ne0 hj ?_ | refine ob_eqb hj ?_); (first | rfl | first | omega | (simp only [hj, std]; split <;> omega) | (simp (disch := omega) only [hj, std, cmpI, cmpB, satB, add64, sub64, ite0, pl0, pl2, pl3, sb0, if_true, if_false, eq_self] <;> omega) | (simp (disch := omega) [hj, std, cmpI, cmpB, satB, add64, sub64, ite0, pl0, pl2, pl3, sb0, if_true, if_false, eq_self] <;> omega))) | ((refine r1b ?_; rw [hE]; simp [hj, std, cmpI])))
/-! ### the reference: small, Valid, fits -/
def fewM (m : List Sta) : Bool := decide (m.length ≤ 12 ∧ ∀ s ∈ m, s.2.length ≤ 6)
end Go.Proofs.Ytcpcghnpoekhpaa.A
/- Machines, the reference: Out, Go, fits. -/
set_option linter.unusedSimpArgs false
set_option linter.unusedVariables false
set_option maxRecDepth 100000
set_option maxHeartbeats 4000000
namespace Go.Proofs.Ytcpcghnpoekhpaa.A
open Go
theorem pc_Out24 (m : List Sta) (s : Int) (hs : SzM m) : PC Try.prog T 31 [.v false [.sl (nM m) (mC m)], .v false [vI s]] (ret1 (.st (vI (outM m s)))) [] := by
 have hn := nM_eq m
 have hc := mC_len m
 have hm1 := hs.1
 have hno : ¬ (0 ≤ s ∧ s < m.length) → outM m s = -1 := fun h => by unfold outM; rw [if_neg h]
 have hyes : (0 ≤ s ∧ s < m.length) → outM m s = (mAt m s.toNat).1 ∧ cellAt (mC m) (s.toNat * 2) = vI (mAt m s.toNat).1 := fun h => ⟨by unfold outM; rw [if_pos h], (mC_at m s.toNat (by omega)).1⟩
 generalize outM m s = R at *
 refine pc_of tok Try.func31 rfl (by rfl) ?_
 obtain ⟨j, hj⟩ : ∃ j : J, j = std Try.prog T := ⟨_, rfl⟩
 have hm : Try.prog.follows .mixedOrders = true := by kernel_rfl
 rcases Decidable.em (0 ≤ s ∧ s < (m.length : Int)) with h | h
 ·obtain ⟨r1, r2⟩ := hyes h
  have g0 : gi (cellAt (mC m) (s.toNat * 2)) = (mAt m s.toNat).1 := by rw [r2]; rfl
  obtain ⟨h1, h2⟩ := h
  clear hno hyes
  generalize y_mC : @mC = x_mC at *
  generalize y_nM : @nM = x_nM at *
  (repeat' first | ((first | with_reducible refine tr_cut (fun h => ?_) (fun h => ?_) | refine aw_condj (by cbv) (fun h => ?_) (fun h => ?_)) <;> (try simp (disch := omega) only [hj, std, cmpI, cmpB, satB, Bool.not_eq_true, Bool.not_eq_false, decide_eq_true_eq, decide_eq_false_iff_not, beq_iff_eq, bne_iff_ne, bne_eq_false_iff_eq, beq_eq_false_iff_ne, ne_eq, reduceCtorEq, not_true_eq_false, not_false_eq_true, pl0, if_true, cmpS_eq, cmpS_neq, Bool.not_eq_eq_eq_not, Bool.not_true, Bool.not_false, Bool.not_eq_true', Int.ofNat_eq_natCast, add64, sub64] at h) <;> (try (exfalso; omega))) | (with_reducible refine tr_alt (fun h => ?_) ?_ <;> (try (exfalso; omega))) | (with_reducible first | refine tr_ob ?_ ?_ | refine tr_done ?_) | (refine aw_tr hj tok book0 (by cbv) ?_) | (refine aw_seq fun K hK => ?_) | (refine aw_tr1 hj tok book0 (by cbv) ?_) | (refine aw_skip ?_) | (refine aw_block ?_) | (refine aw_exit ?_) | (refine aw_ret ⟨.inr rfl, ret_okj hj (by cbv) ?_ ?_⟩) | (refine aw_ret ?_) | (with_reducible first | refine th_n ?_ | refine th_r ?_ | refine th_x ?_ | refine blk_n ?_ | refine blk_r ?_ | refine blk_x ?_ | refine blk_y rfl ?_) | (refine ⟨.inr rfl, ret_okj hj (by cbv) ?_ ?_⟩) | (refine ⟨.inl rfl, ret_okj hj (by cbv) ?_ ?_⟩) | (with_reducible apply_assumption -symm -exfalso only [*]))
  all_goals ((try subst y_mC); (try subst y_nM))
  all_goals (try (repeat' first | with_reducible exact obl0 | (with_reducible refine obl1 ?_ ?_)))
  all_goals (try first | with_reducible exact True.intro | ((first | refine ob_le hj ?_ | refine ob_lei hj ?_ | refine ob_inb hj ?_ | refine ob_pos hj ?_ | refine ob_ne0 hj ?_ | refine ob_eqb hj ?_); (first | rfl | first | omega | (simp only [hj, std]; split <;> omega) | (simp (disch := omega) only [hj, std, cmpI, cmpB, satB, add64, sub64, ite0, pl0, pl2, pl3, sb0, if_true, if_false, eq_self, hc, g0] <;> omega) | (simp (disch := omega) [hj, std, cmpI, cmpB, satB, add64, sub64, ite0, pl0, pl2, pl3, sb0, if_true, if_false, eq_self, hc, g0] <;> omega))) | ((refine ob_ok hj ?_; simp only [hj, std, ite0]; exact ⟨_, r2⟩)) | ((refine r1i ?_; simp only [hj, std, ite0, g0, r1])))
 ·have hE := hno h
  clear hno hyes
  generalize y_mC : @mC = x_mC at *
  generalize y_nM : @nM = x_nM at *
  (repeat' first | ((first | with_reducible refine tr_cut (fun h => ?_) (fun h => ?_) | refine aw_condj (by cbv) (fun h => ?_) (fun h => ?_)) <;> (try simp (disch := omega) only [hj, std, cmpI, cmpB, satB, Bool.not_eq_true, Bool.not_eq_false, decide_eq_true_eq, decide_eq_false_iff_not, beq_iff_eq, bne_iff_ne, bne_eq_false_iff_eq, beq_eq_false_iff_ne, ne_eq, reduceCtorEq, not_true_eq_false, not_false_eq_true, pl0, if_true, cmpS_eq, cmpS_neq, Bool.not_eq_eq_eq_not, Bool.not_true, Bool.not_false, Bool.not_eq_true', Int.ofNat_eq_natCast, add64, sub64] at h) <;> (try (exfalso; omega))) | (with_reducible refine tr_alt (fun h => ?_) ?_ <;> (try (exfalso; omega))) | (with_reducible first | refine tr_ob ?_ ?_ | refine tr_done ?_) | (refine aw_tr hj tok book0 (by cbv) ?_) | (refine aw_seq fun K hK => ?_) | (refine aw_tr1 hj tok book0 (by cbv) ?_) | (refine aw_skip ?_) | (refine aw_block ?_) | (refine aw_exit ?_) | (refine aw_ret ⟨.inr rfl, ret_okj hj (by cbv) ?_ ?_⟩) | (refine aw_ret ?_) | (with_reducible first | refine th_n ?_ | refine th_r ?_ | refine th_x ?_ | refine blk_n ?_ | refine blk_r ?_ | refine blk_x ?_ | refine blk_y rfl ?_) | (refine ⟨.inr rfl, ret_okj hj (by cbv) ?_ ?_⟩) | (refine ⟨.inl rfl, ret_okj hj (by cbv) ?_ ?_⟩) | (with_reducible apply_assumption -symm -exfalso only [*]))
  all_goals ((try subst y_mC); (try subst y_nM))
  all_goals (try (repeat' first | with_reducible exact obl0 | with_reducible refine obl1 ?_ ?_))
  all_goals (try first | with_reducible exact True.intro | ((first | refine ob_le hj ?_ | refine ob_lei hj ?_ | refine ob_inb hj ?_ | refine ob_pos hj ?_ | refine ob_ne0 hj ?_ | refine ob_eqb hj ?_); (first | rfl | first | omega | (simp only [hj, std]; split <;> omega) | (simp (disch := omega) only [hj, std, cmpI, cmpB, satB, add64, sub64, ite0, pl0, pl2, pl3, sb0, if_true, if_false, eq_self, hc] <;> omega) | (simp (disch := omega) [hj, std, cmpI, cmpB, satB, add64, sub64, ite0, pl0, pl2, pl3, sb0, if_true, if_false, eq_self, hc] <;> omega))) | ((rw [hE]; exact rfl)))
theorem pc_Go24 (m : List Sta) (s t : Int) (hs : SzM m) : PC Try.prog T 18 [.v false [.sl (nM m) (mC m)], .v false [vI s], .v false [vI t]] (ret1 (.st (vI (goM m s t)))) [] := by
 have hn := nM_eq m
 have hc := mC_len m
 have hm1 := hs.1
 have hno : ¬ (0 ≤ s ∧ s < m.length) → goM m s t = -1 := fun h => by unfold goM; rw [if_neg h]
 have hyes : (0 ≤ s ∧ s < m.length) → goM m s t = goE (nM m) t (mAt m s.toNat).2 ∧ cellAt (mC m) (s.toNat * 2 + 1) = .sl (nE (mAt m s.toNat).2) (eC (mAt m s.toNat).2) ∧ (mAt m s.toNat).2.length ≤ 1000000000 := fun h => ⟨by unfold goM; rw [if_pos h, hn], (mC_at m s.toNat (by omega)).2, hs.at (by omega)⟩
 generalize goM m s t = R at *
 refine pc_of tok Try.func18 rfl (by rfl) ?_
 obtain ⟨j, hj⟩ : ∃ j : J, j = std Try.prog T := ⟨_, rfl⟩
 have hm : Try.prog.follows .mixedOrders = true := by kernel_rfl
 rcases Decidable.em (0 ≤ s ∧ s < (m.length : Int)) with h | h
 ·obtain ⟨r1, r2, r3⟩ := hyes h
  generalize (mAt m s.toNat).2 = b at *
  have g1 : gn (cellAt (mC m) (s.toNat * 2 + 1)) = nE b := by rw [r2]; rfl
  have g2 : gc (cellAt (mC m) (s.toNat * 2 + 1)) = eC b := by rw [r2]; rfl
  have hbn := nE_eq b
  have hbc := eC_len b
  have hba := eC_at b
  have hbd := @drop_eg b
  obtain ⟨h1, h2⟩ := h
  clear hno hyes
  generalize y_eC : @eC = x_eC at *
  generalize y_nE : @nE = x_nE at *
  generalize y_mC : @mC = x_mC at *
  generalize y_nM : @nM = x_nM at *
  (repeat' first | ((first | with_reducible refine tr_cut (fun h => ?_) (fun h => ?_) | refine aw_condj (by cbv) (fun h => ?_) (fun h => ?_)) <;> (try simp (disch := omega) only [hj, std, cmpI, cmpB, satB, Bool.not_eq_true, Bool.not_eq_false, decide_eq_true_eq, decide_eq_false_iff_not, beq_iff_eq, bne_iff_ne, bne_eq_false_iff_eq, beq_eq_false_iff_ne, ne_eq, reduceCtorEq, not_true_eq_false, not_false_eq_true, pl0, if_true, cmpS_eq, cmpS_neq, Bool.not_eq_eq_eq_not, Bool.not_true, Bool.not_false, Bool.not_eq_true', Int.ofNat_eq_natCast, add64, sub64] at h) <;> (try (exfalso; omega))) | (with_reducible refine tr_alt (fun h => ?_) ?_ <;> (try (exfalso; omega))) | (with_reducible first | refine tr_ob ?_ ?_ | refine tr_done ?_) | (refine aw_tr hj tok book0 (by cbv) ?_) | (refine aw_seq fun K hK => ?_) | (refine aw_tr1 hj tok book0 (by cbv) ?_) | (refine aw_skip ?_) | (refine aw_block ?_) | (refine aw_exit ?_) | (refine aw_ret ⟨.inr rfl, ret_okj hj (by cbv) ?_ ?_⟩) | (refine aw_ret ?_) | (with_reducible first | refine th_n ?_ | refine th_r ?_ | refine th_x ?_ | refine blk_n ?_ | refine blk_r ?_ | refine blk_x ?_ | refine blk_y rfl ?_) | (refine ⟨.inr rfl, ret_okj hj (by cbv) ?_ ?_⟩) | (refine ⟨.inl rfl, ret_okj hj (by cbv) ?_ ?_⟩) | (with_reducible refine ⟨_, by cbv, ?_, ?_⟩) | (with_reducible apply_assumption -symm -exfalso only [*]))
  all_goals ((try subst y_eC); (try subst y_nE); (try subst y_mC); (try subst y_nM))
  all_goals (try (repeat' first | with_reducible exact obl0 | (with_reducible refine obl1 ?_ ?_)))
  all_goals (try first | with_reducible exact True.intro | ((first | refine ob_le hj ?_ | refine ob_lei hj ?_ | refine ob_inb hj ?_ | refine ob_pos hj ?_ | refine ob_ne0 hj ?_ | refine ob_eqb hj ?_); (first | rfl | first | omega | (simp only [hj, std]; split <;> omega) | (simp (disch := omega) only [hj, std, cmpI, cmpB, satB, add64, sub64, ite0, pl0, pl2, pl3, sb0, if_true, if_false, eq_self] <;> omega) | (simp (disch := omega) [hj, std, cmpI, cmpB, satB, add64, sub64, ite0, pl0, pl2, pl3, sb0, if_true, if_false, eq_self] <;> omega))))
  refine aw_lpj hj [(0, .keep), (1, .keep), (2, .keep), (7, .keep)] [] (fun (k : Int) => stOf 58 [(0, .one (.c (.sl (nM m) (mC m)))), (1, .one (.c (vI s))), (2, .one (.c (vI t))), (7, .one (.c (vI k)))] []) (fun (k : Int) => nE b - k.toNat) (fun (k : Int) => 0 ≤ k ∧ k ≤ nE b ∧ R = goE (nM m) t (b.drop k.toNat)) (0) (by generalize @eC = x_eC; generalize @nE = x_nE; generalize @mC = x_mC; generalize @nM = x_nM; cbv) ?_ (fun k hI => ?_)
  ·exact ⟨by omega, by omega, r1⟩
  obtain ⟨i1, i2, hI⟩ := hI
  rcases Decidable.em (k < (nE b : Int)) with hk | hk
  ·obtain ⟨d0, d1⟩ := hba k.toNat (by omega)
   have f1 : (k + 1).toNat = k.toNat + 1 := by omega
   rw [hbd (k := k.toNat) (by omega), ← f1] at hI
   have u0 : gi (cellAt (eC b) (k.toNat * 2)) = (eAt b k.toNat).1 := by rw [d0]; rfl
   have u1 : gi (cellAt (eC b) (k.toNat * 2 + 1)) = (eAt b k.toNat).2 := by rw [d1]; rfl
   generalize eAt b k.toNat = X at *
   obtain ⟨x, y⟩ := X
   dsimp only at d0 d1 u0 u1
   have hI2 : R = if x = t ∧ 0 ≤ y ∧ y < (nM m : Int) then y else goE (nM m) t (b.drop (k + 1).toNat) := hI
   have hq1 : (x = t ∧ 0 ≤ y ∧ y < (nM m : Int)) → R = y := fun h => by rw [hI2, if_pos h]
   have hq2 : ¬ (x = t ∧ 0 ≤ y ∧ y < (nM m : Int)) → R = goE (nM m) t (b.drop (k + 1).toNat) := fun h => by rw [hI2, if_neg h]
   clear hI hI2 hba hbd
   generalize y_eC : @eC = x_eC at *
   generalize y_nE : @nE = x_nE at *
   generalize y_mC : @mC = x_mC at *
   generalize y_nM : @nM = x_nM at *
   (repeat' first | ((first | with_reducible refine tr_cut (fun h => ?_) (fun h => ?_) | refine aw_condj (by cbv) (fun h => ?_) (fun h => ?_)) <;> (try simp (disch := omega) only [hj, std, cmpI, cmpB, satB, Bool.not_eq_true, Bool.not_eq_false, decide_eq_true_eq, decide_eq_false_iff_not, beq_iff_eq, bne_iff_ne, bne_eq_false_iff_eq, beq_eq_false_iff_ne, ne_eq, reduceCtorEq, not_true_eq_false, not_false_eq_true, pl0, if_true, cmpS_eq, cmpS_neq, Bool.not_eq_eq_eq_not, Bool.not_true, Bool.not_false, Bool.not_eq_true', g1, g2, u0, u1, ite0, Int.ofNat_eq_natCast, add64, sub64] at h) <;> (try (exfalso; omega))) | (with_reducible refine tr_alt (fun h => ?_) ?_ <;> (try (exfalso; omega))) | (with_reducible first | refine tr_ob ?_ ?_ | refine tr_done ?_) | (refine aw_tr hj tok book0 (by cbv) ?_) | (refine aw_seq fun K hK => ?_) | (refine aw_tr1 hj tok book0 (by cbv) ?_) | (refine aw_skip ?_) | (refine aw_block ?_) | (refine aw_exit ?_) | (refine aw_ret ⟨.inr rfl, ret_okj hj (by cbv) ?_ ?_⟩) | (refine aw_ret ?_) | (with_reducible first | refine th_n ?_ | refine th_r ?_ | refine th_x ?_ | refine blk_n ?_ | refine blk_r ?_ | refine blk_x ?_ | refine blk_y rfl ?_) | (refine ⟨.inr rfl, ret_okj hj (by cbv) ?_ ?_⟩) | (refine ⟨.inl rfl, ret_okj hj (by cbv) ?_ ?_⟩) | (with_reducible refine ⟨_, by cbv, ?_, ?_⟩) | (with_reducible apply_assumption -symm -exfalso only [*]))
   all_goals ((try subst y_eC); (try subst y_nE); (try subst y_mC); (try subst y_nM))
   all_goals (try (repeat' first | with_reducible exact obl0 | (with_reducible refine obl1 ?_ ?_)))
   all_goals (try first | with_reducible exact True.intro | ((first | refine ob_le hj ?_ | refine ob_lei hj ?_ | refine ob_inb hj ?_ | refine ob_pos hj ?_ | refine ob_ne0 hj ?_ | refine ob_eqb hj ?_); (first | rfl | first | omega | (simp only [hj, std]; split <;> omega) | (simp (disch := omega) only [hj, std, cmpI, cmpB, satB, add64, sub64, ite0, pl0, pl2, pl3, sb0, if_true, if_false, eq_self, hc, hbc, g1, g2, u0, u1] <;> omega) | (simp (disch := omega) [hj, std, cmpI, cmpB, satB, add64, sub64, ite0, pl0, pl2, pl3, sb0, if_true, if_false, eq_self, hc, hbc, g1, g2, u0, u1] <;> omega))) | ((refine ob_ok hj ?_; simp only [hj, std, ite0, g1, g2]; first | exact .inr ⟨_, _, r2⟩ | exact ⟨_, d0⟩ | exact ⟨_, d1⟩)) | ((refine r1i ?_; simp only [hj, std, ite0, g1, g2, u1]; exact hq1 (by omega))) | ((simp (disch := omega) only [hj, std, add64, ite0]; first | omega | exact ⟨by omega, by omega, hq2 (by omega)⟩)))
  ·have e : k.toNat = b.length := by omega
   rw [e, List.drop_length] at hI
   have hE : R = -1 := hI
   generalize y_eC : @eC = x_eC at *
   generalize y_nE : @nE = x_nE at *
   generalize y_mC : @mC = x_mC at *
   generalize y_nM : @nM = x_nM at *
   (repeat' first | ((first | with_reducible refine tr_cut (fun h => ?_) (fun h => ?_) | refine aw_condj (by cbv) (fun h => ?_) (fun h => ?_)) <;> (try simp (disch := omega) only [hj, std, cmpI, cmpB, satB, Bool.not_eq_true, Bool.not_eq_false, decide_eq_true_eq, decide_eq_false_iff_not, beq_iff_eq, bne_iff_ne, bne_eq_false_iff_eq, beq_eq_false_iff_ne, ne_eq, reduceCtorEq, not_true_eq_false, not_false_eq_true, pl0, if_true, cmpS_eq, cmpS_neq, Bool.not_eq_eq_eq_not, Bool.not_true, Bool.not_false, Bool.not_eq_true', g1, ite0, Int.ofNat_eq_natCast, add64, sub64] at h) <;> (try (exfalso; omega))) | (with_reducible refine tr_alt (fun h => ?_) ?_ <;> (try (exfalso; omega))) | (with_reducible first | refine tr_ob ?_ ?_ | refine tr_done ?_) | (refine aw_tr hj tok book0 (by cbv) ?_) | (refine aw_seq fun K hK => ?_) | (refine aw_tr1 hj tok book0 (by cbv) ?_) | (refine aw_skip ?_) | (refine aw_block ?_) | (refine aw_exit ?_) | (refine aw_ret ⟨.inr rfl, ret_okj hj (by cbv) ?_ ?_⟩) | (refine aw_ret ?_) | (with_reducible first | refine th_n ?_ | refine th_r ?_ | refine th_x ?_ | refine blk_n ?_ | refine blk_r ?_ | refine blk_x ?_ | refine blk_y rfl ?_) | (refine ⟨.inr rfl, ret_okj hj (by cbv) ?_ ?_⟩) | (refine ⟨.inl rfl, ret_okj hj (by cbv) ?_ ?_⟩) | (with_reducible refine ⟨_, by cbv, ?_, ?_⟩) | (with_reducible apply_assumption -symm -exfalso only [*]))
   all_goals ((try subst y_eC); (try subst y_nE); (try subst y_mC); (try subst y_nM))
   all_goals (try (repeat' first | with_reducible exact obl0 | (with_reducible refine obl1 ?_ ?_)))
   all_goals (try first | with_reducible exact True.intro | ((first | refine ob_le hj ?_ | refine ob_lei hj ?_ | refine ob_inb hj ?_ | refine ob_pos hj ?_ | refine ob_ne0 hj ?_ | refine ob_eqb hj ?_); (first | rfl | first | omega | (simp only [hj, std]; split <;> omega) | (simp (disch := omega) only [hj, std, cmpI, cmpB, satB, add64, sub64, ite0, pl0, pl2, pl3, sb0, if_true, if_false, eq_self, hc, g1] <;> omega) | (simp (disch := omega) [hj, std, cmpI, cmpB, satB, add64, sub64, ite0, pl0, pl2, pl3, sb0, if_true, if_false, eq_self, hc, g1] <;> omega))) | ((refine ob_ok hj ?_; simp only [hj, std, ite0, g1, g2]; exact .inr ⟨_, _, r2⟩)) | ((rw [hE]; exact rfl)))
 ·have hE := hno h
  clear hno hyes
  generalize y_eC : @eC = x_eC at *
  generalize y_nE : @nE = x_nE at *
  generalize y_mC : @mC = x_mC at *
  generalize y_nM : @nM = x_nM at *
  (repeat' first | ((first | with_reducible refine tr_cut (fun h => ?_) (fun h => ?_) | refine aw_condj (by cbv) (fun h => ?_) (fun h => ?_)) <;> (try simp (disch := omega) only [hj, std, cmpI, cmpB, satB, Bool.not_eq_true, Bool.not_eq_false, decide_eq_true_eq, decide_eq_false_iff_not, beq_iff_eq, bne_iff_ne, bne_eq_false_iff_eq, beq_eq_false_iff_ne, ne_eq, reduceCtorEq, not_true_eq_false, not_false_eq_true, pl0, if_true, cmpS_eq, cmpS_neq, Bool.not_eq_eq_eq_not, Bool.not_true, Bool.not_false, Bool.not_eq_true', Int.ofNat_eq_natCast, add64, sub64] at h) <;> (try (exfalso; omega))) | (with_reducible refine tr_alt (fun h => ?_) ?_ <;> (try (exfalso; omega))) | (with_reducible first | refine tr_ob ?_ ?_ | refine tr_done ?_) | (refine aw_tr hj tok book0 (by cbv) ?_) | (refine aw_seq fun K hK => ?_) | (refine aw_tr1 hj tok book0 (by cbv) ?_) | (refine aw_skip ?_) | (refine aw_block ?_) | (refine aw_exit ?_) | (refine aw_ret ⟨.inr rfl, ret_okj hj (by cbv) ?_ ?_⟩) | (refine aw_ret ?_) | (with_reducible first | refine th_n ?_ | refine th_r ?_ | refine th_x ?_ | refine blk_n ?_ | refine blk_r ?_ | refine blk_x ?_ | refine blk_y rfl ?_) | (refine ⟨.inr rfl, ret_okj hj (by cbv) ?_ ?_⟩) | (refine ⟨.inl rfl, ret_okj hj (by cbv) ?_ ?_⟩) | (with_reducible refine ⟨_, by cbv, ?_, ?_⟩) | (with_reducible apply_assumption -symm -exfalso only [*]))
  all_goals ((try subst y_eC); (try subst y_nE); (try subst y_mC); (try subst y_nM))
  all_goals (try (repeat' first | with_reducible exact obl0 | with_reducible refine obl1 ?_ ?_))
  all_goals (try first | with_reducible exact True.intro | ((first | refine ob_le hj ?_ | refine ob_lei hj ?_ | refine ob_inb hj ?_ | refine ob_pos hj ?_ | refine ob_ne0 hj ?_ | refine ob_eqb hj ?_); (first | rfl | first | omega | (simp only [hj, std]; split <;> omega) | (simp (disch := omega) only [hj, std, cmpI, cmpB, satB, add64, sub64, ite0, pl0, pl2, pl3, sb0, if_true, if_false, eq_self, hc] <;> omega) | (simp (disch := omega) [hj, std, cmpI, cmpB, satB, add64, sub64, ite0, pl0, pl2, pl3, sb0, if_true, if_false, eq_self, hc] <;> omega))) | ((rw [hE]; exact rfl)))
end Go.Proofs.Ytcpcghnpoekhpaa.A
/- Tries: what a machine tells of a word. -/
set_option linter.unusedSimpArgs false
set_option linter.unusedVariables false
set_option maxRecDepth 100000
set_option maxHeartbeats 4000000
namespace Go.Proofs.Ytcpcghnpoekhpaa.A
open Go
def goQ (m : List Sta) (s t : Int) : Int := goM m s t
def outQ (m : List Sta) (s : Int) : Int := outM m s
def bookRn (x_stsOf : List C → List Sta) (x_goQ : List Sta → Int → Int → Int) (x_outQ : List Sta → Int → Int) : Book := fun f xs => match f, xs with
 | 18, [.v false [.sl _ cs], .v false [.val (.int .i64 s)], .v false [.val (.int .i64 t)]] => some (ret1 (.st (vI (x_goQ (x_stsOf cs) s t))))
 | 31, [.v false [.sl _ cs], .v false [.val (.int .i64 s)]] => some (ret1 (.st (vI (x_outQ (x_stsOf cs) s))))
 | _, _ => none
theorem pc_Run24 (m : List Sta) (w : ByteArray) (hs : SzM m) (hw : w.size < 4611686018427387904) : PC Try.prog T 19 [.v false [.sl (nM m) (mC m)], .v false [vS w]] (ret1 (.st (vI (runMw m w)))) [] := by
 have em := stsOf_mC m
 have cG : ∀ s t, (std Try.prog T).pc 18 [.v false [.sl (nM m) (mC m)], .v false [vI s], .v false [vI t]] (ret1 (.st (vI (goQ (stsOf (mC m)) s t)))) [] := fun s t => by
  rw [em]; exact ⟨enters Try.func18 (by kernel_rfl) (by kernel_rfl), pc_Go24 m s t hs⟩
 have cO : ∀ s, (std Try.prog T).pc 31 [.v false [.sl (nM m) (mC m)], .v false [vI s]] (ret1 (.st (vI (outQ (stsOf (mC m)) s)))) [] := fun s => by
  rw [em]; exact ⟨enters Try.func31 (by kernel_rfl) (by kernel_rfl), pc_Out24 m s hs⟩
 refine pc_of tok Try.func19 rfl (by rfl) ?_
 obtain ⟨j, hj⟩ : ∃ j : J, j = std Try.prog T := ⟨_, rfl⟩
 have hm : Try.prog.follows .mixedOrders = true := by kernel_rfl
 generalize y_stsOf : @stsOf = x_stsOf at *
 generalize y_goQ : @goQ = x_goQ at *
 generalize y_outQ : @outQ = x_outQ at *
 generalize y_mC : @mC = x_mC at *
 generalize y_nM : @nM = x_nM at *
 generalize y_runMw : @runMw = x_runMw at *
 (repeat' first | ((first | with_reducible refine tr_cut (fun h => ?_) (fun h => ?_) | refine aw_condj (by cbv) (fun h => ?_) (fun h => ?_)) <;> (try simp (disch := omega) only [hj, std, cmpI, cmpB, satB, Bool.not_eq_true, Bool.not_eq_false, decide_eq_true_eq, decide_eq_false_iff_not, beq_iff_eq, bne_iff_ne, bne_eq_false_iff_eq, beq_eq_false_iff_ne, ne_eq, reduceCtorEq, not_true_eq_false, not_false_eq_true, pl0, if_true, cmpS_eq, cmpS_neq, Bool.not_eq_eq_eq_not, Bool.not_true, Bool.not_false, Bool.not_eq_true', add64, sub64] at h) <;> (try (exfalso; omega))) | (with_reducible refine tr_alt (fun h => ?_) ?_ <;> (try (exfalso; omega))) | (with_reducible first | refine tr_ob ?_ ?_ | refine tr_done ?_) | (refine aw_tr hj tok (bookRn x_stsOf x_goQ x_outQ) (by cbv) ?_) | (refine aw_seq fun K hK => ?_) | (refine aw_tr1 hj tok (bookRn x_stsOf x_goQ x_outQ) (by cbv) ?_) | (refine aw_skip ?_) | (refine aw_block ?_) | (refine aw_exit ?_) | (refine aw_ret ⟨.inr rfl, ret_okj hj (by cbv) ?_ ?_⟩) | (refine aw_ret ?_) | (with_reducible first | refine th_n ?_ | refine th_r ?_ | refine th_x ?_ | refine blk_n ?_ | refine blk_r ?_ | refine blk_x ?_ | refine blk_y rfl ?_) | (refine ⟨.inr rfl, ret_okj hj (by cbv) ?_ ?_⟩) | (refine ⟨.inl rfl, ret_okj hj (by cbv) ?_ ?_⟩) | (with_reducible first | refine ⟨(_, _), by cbv, ?_, ?_⟩ | refine ⟨_, by cbv, ?_, ?_⟩) | (with_reducible apply_assumption -symm -exfalso only [*]))
 all_goals ((try subst y_stsOf); (try subst y_goQ); (try subst y_outQ); (try subst y_mC); (try subst y_nM); (try subst y_runMw))
 all_goals (try (repeat' first | with_reducible exact obl0 | (with_reducible refine obl1 ?_ ?_)))
 all_goals (try first | with_reducible exact True.intro | ((first | refine ob_le hj ?_ | refine ob_lei hj ?_ | refine ob_inb hj ?_ | refine ob_pos hj ?_ | refine ob_ne0 hj ?_ | refine ob_eqb hj ?_); (first | rfl | first | omega | (simp only [hj, std]; split <;> omega) | (simp (disch := omega) only [hj, std, cmpI, cmpB, satB, add64, sub64, ite0, pl0, pl2, pl3, sb0, if_true, if_false, eq_self] <;> omega) | (simp (disch := omega) [hj, std, cmpI, cmpB, satB, add64, sub64, ite0, pl0, pl2, pl3, sb0, if_true, if_false, eq_self] <;> omega))))
 refine aw_lpj hj [(0, .keep), (1, .keep), (5, .keep), (6, .keep)] [] (fun (⟨i, s⟩ : Int × Int) => stOf 27 [(0, .one (.c (.sl (nM m) (mC m)))), (1, .one (.c (vS w))), (5, .one (.c (vI s))), (6, .one (.c (vI i)))] []) (fun (⟨i, s⟩ : Int × Int) => w.size - i.toNat) (fun (⟨i, s⟩ : Int × Int) => 0 ≤ i ∧ i ≤ w.size ∧ s = runW m w i.toNat) ((0, 0)) (by generalize @stsOf = x_stsOf; generalize @goQ = x_goQ; generalize @outQ = x_outQ; generalize @mC = x_mC; generalize @nM = x_nM; generalize @runMw = x_runMw; cbv) ?_ (fun ⟨i, s⟩ hI => ?_)
 ·exact ⟨by omega, by omega, rfl⟩
 obtain ⟨i1, i2, i3⟩ := hI
 change 0 ≤ i at i1
 change i ≤ w.size at i2
 change s = runW m w i.toNat at i3
 have hbw := bt_lt w i.toNat
 have hwr : IntKind.wrap .i64 (bt w i.toNat : Int) = (bt w i.toNat : Int) := wrap64 (by omega) (by omega)
 have hst : ¬ s < 0 → goQ m s (bt w i.toNat) = runW m w (i.toNat + 1) := fun h => by rw [i3] at h ⊢; rw [runW_step m w h]; rfl
 have hend : ¬ i < w.size → outQ m s = runMw m w := fun h => by unfold outQ runMw; rw [i3, show i.toNat = w.size by omega]
 have hneg : s < 0 → outQ m s = runMw m w := fun h => by rw [runMw_neg m w (i := i.toNat) (by omega) (by rw [← i3]; exact h)]; exact outM_neg h
 have hi1 : i < w.size → j.arith .add .i64 i 1 = i + 1 := fun h => by rw [hj]; exact add64 (by omega) (by omega)
 clear i3
 generalize y_stsOf : @stsOf = x_stsOf at *
 generalize y_goQ : @goQ = x_goQ at *
 generalize y_outQ : @outQ = x_outQ at *
 generalize y_mC : @mC = x_mC at *
 generalize y_nM : @nM = x_nM at *
 generalize y_runMw : @runMw = x_runMw at *
 (repeat' first | ((first | with_reducible refine tr_cut (fun h => ?_) (fun h => ?_) | refine aw_condj (by cbv) (fun h => ?_) (fun h => ?_)) <;> (try simp (disch := omega) only [hj, std, cmpI, cmpB, satB, Bool.not_eq_true, Bool.not_eq_false, decide_eq_true_eq, decide_eq_false_iff_not, beq_iff_eq, bne_iff_ne, bne_eq_false_iff_eq, beq_eq_false_iff_ne, ne_eq, reduceCtorEq, not_true_eq_false, not_false_eq_true, pl0, if_true, cmpS_eq, cmpS_neq, Bool.not_eq_eq_eq_not, Bool.not_true, Bool.not_false, Bool.not_eq_true', hwr, add64, sub64] at h) <;> (try (exfalso; omega))) | (with_reducible refine tr_alt (fun h => ?_) ?_ <;> (try (exfalso; omega))) | (with_reducible first | refine tr_ob ?_ ?_ | refine tr_done ?_) | (refine aw_tr hj tok (bookRn x_stsOf x_goQ x_outQ) (by cbv) ?_) | (refine aw_seq fun K hK => ?_) | (refine aw_tr1 hj tok (bookRn x_stsOf x_goQ x_outQ) (by cbv) ?_) | (refine aw_skip ?_) | (refine aw_block ?_) | (refine aw_exit ?_) | (refine aw_ret ⟨.inr rfl, ret_okj hj (by cbv) ?_ ?_⟩) | (refine aw_ret ?_) | (with_reducible first | refine th_n ?_ | refine th_r ?_ | refine th_x ?_ | refine blk_n ?_ | refine blk_r ?_ | refine blk_x ?_ | refine blk_y rfl ?_) | (refine ⟨.inr rfl, ret_okj hj (by cbv) ?_ ?_⟩) | (refine ⟨.inl rfl, ret_okj hj (by cbv) ?_ ?_⟩) | (with_reducible first | refine ⟨(_, _), by cbv, ?_, ?_⟩ | refine ⟨_, by cbv, ?_, ?_⟩) | (with_reducible apply_assumption -symm -exfalso only [*]))
 all_goals ((try subst y_stsOf); (try subst y_goQ); (try subst y_outQ); (try subst y_mC); (try subst y_nM); (try subst y_runMw))
 all_goals (try (repeat' first | with_reducible exact obl0 | with_reducible refine obl1 ?_ ?_))
 all_goals (try first | with_reducible exact True.intro | ((first | refine ob_pc hj ?_ | refine ob_pcn hj ?_); (try rw [hj]); first | exact cG _ _ | exact cO _) | ((first | refine ob_le hj ?_ | refine ob_lei hj ?_ | refine ob_inb hj ?_ | refine ob_pos hj ?_ | refine ob_ne0 hj ?_ | refine ob_eqb hj ?_); (first | rfl | first | omega | (simp only [hj, std]; split <;> omega) | (simp (disch := omega) only [hj, std, cmpI, cmpB, satB, add64, sub64, ite0, pl0, pl2, pl3, sb0, if_true, if_false, eq_self] <;> omega) | (simp (disch := omega) [hj, std, cmpI, cmpB, satB, add64, sub64, ite0, pl0, pl2, pl3, sb0, if_true, if_false, eq_self] <;> omega))) | ((refine r1i ?_; rw [em]; exact (hend (by omega)).symm)) | ((refine r1i ?_; rw [em]; exact (hneg (by omega)).symm)) | ((show w.size - (j.arith .add .i64 i 1).toNat < w.size - i.toNat; rw [hi1 (by omega)]; omega)) | (exact ⟨(show 0 ≤ j.arith .add .i64 i 1 by rw [hi1 (by omega)]; omega), (show j.arith .add .i64 i 1 ≤ w.size by rw [hi1 (by omega)]; omega), (show goQ (stsOf (mC m)) s (j.wrap .i64 (j.sat w (j.toNat i))) = runW m w (j.arith .add .i64 i 1).toNat by rw [hi1 (by omega), em, show (i + 1).toNat = i.toNat + 1 by omega, ← hst (by omega)]; rw [hj]; exact congrArg (goQ m s) hwr)⟩))
end Go.Proofs.Ytcpcghnpoekhpaa.A
/- Machines that came in, as9 cells. -/
set_option linter.unusedSimpArgs false
set_option linter.unusedVariables false
set_option maxRecDepth 100000
set_option maxHeartbeats 4000000
namespace Go.Proofs.Ytcpcghnpoekhpaa.A
open Go
abbrev REg : Rd (Int × Int) := RRec2 RInt RInt
abbrev RSta : Rd (Int × List (Int × Int)) := RRec2 RInt (RSl 2 16 REg)
abbrev RMac : Rd (List (Int × List (Int × Int))) := RSl 2 32 RSta
theorem slM_mem {α : Type} {sz by_ : Nat} {R : Rd α} {w : World} {cs : List Value} {xs : List α} (h : RSl sz by_ R w cs xs) : ∀ x ∈ xs, ∃ cs', R w cs' x := by
 obtain ⟨a, cap, _, hs, _⟩ := h
 intro x hx
 obtain ⟨i, hi, rfl⟩ := List.mem_iff_getElem.1 hx
 obtain ⟨b, off, _, _, hc⟩ := hs (by omega)
 obtain ⟨cs', _, _, h3⟩ := hc i hi
 exact ⟨cs', h3⟩
theorem rdc_egs : RdC (RSl 2 16 REg) fun l => [.sl (nE l) (eC l)] :=
 rdcM_to (rdc_sl (f := fun e : Eg => [vI e.1] ++ [vI e.2]) (rdc_rec2 rdc_int rdc_int) (fun _ => rfl)) fun l => by rw [nE_eq]; rfl
theorem rdc_mac : RdC RMac fun l => [.sl (nM l) (mC l)] :=
 rdcM_to (rdc_sl (f := fun s : Sta => [vI s.1] ++ [.sl (nE s.2) (eC s.2)]) (rdc_rec2 rdc_int rdc_egs) (fun _ => rfl)) fun l => by rw [nM_eq]; rfl
theorem mac_sz {w : World} {cs : List Value} {m : List Sta} (h : RMac w cs m) : m.length ≤ 4398046510976 ∧ ∀ s ∈ m, s.2.length ≤ 8796093021952 := by
 refine ⟨by have := slM_bound h; omega, fun s hs => ?_⟩
 obtain ⟨cs', c0, c1, rfl, _, h2⟩ := slM_mem h s hs
 have := slM_bound h2
 omega
theorem mac_arg {w : World} {a : Option Addr} {len cap : Nat} {m : List Sta} (h : RMac w (Value.slice a len cap).cells.toList m) : CRep w (fun b => b < w.heap.size) (.slice a len cap) (.sl (nM m) (mC m)) := by
 obtain ⟨h1, h2⟩ := rdc_mac w _ m h
 have e : (Value.slice a len cap).cells.toList = [.slice a len cap] := rfl
 rw [e] at h1 h2
 exact h2 0 (by simp) (by simp)
end Go.Proofs.Ytcpcghnpoekhpaa.A
/- TrieRuns: the law's walk. -/
set_option linter.unusedSimpArgs false
set_option linter.unusedVariables false
set_option maxRecDepth 100000
set_option maxHeartbeats 4000000
namespace Go.Proofs.Ytcpcghnpoekhpaa.A
open Go
set_option linter.unusedVariables false
theorem pc_FewT (m : List Sta) (hs : m.length ≤ 4398046510976) : PC Try.prog T 15 [.v false [.sl (nM m) (mC m)]] (ret1 (.st (vI (if fewM m = true then 1 else 0)))) [] := by
 have hn := nM_eq m
 have hc := mC_len m
 have ha := mC_at m
 have hms := hs
 have hat := @mAt_get m
 have hne : ∀ l : List Eg, nE l = l.length := nE_eq
 have hno : ∀ k, k < m.length → ¬ (mAt m k).2.length ≤ 6 → fewM m = false := fun k hk h => decide_eq_false fun hh => h (by rw [hat hk]; exact hh.2 _ (List.getElem_mem hk))
 have hyes : m.length ≤ 12 → (∀ k, k < m.length → (mAt m k).2.length ≤ 6) → fewM m = true := fun h1 h => decide_eq_true ⟨h1, fun s hs => by
  obtain ⟨i, hi, rfl⟩ := List.mem_iff_getElem.1 hs
  rw [← hat hi]; exact h i hi⟩
 have hbig : ¬ m.length ≤ 12 → fewM m = false := fun h => decide_eq_false fun hh => h hh.1
 generalize fewM m = R at *
 refine pc_of tok Try.func15 rfl (by rfl) ?_
 obtain ⟨j, hj⟩ : ∃ j : J, j = std Try.prog T := ⟨_, rfl⟩
 have hm : Try.prog.follows .mixedOrders = true := by kernel_rfl
 generalize y_nE : @nE = x_nE at *
 generalize y_mC : @mC = x_mC at *
 generalize y_nM : @nM = x_nM at *
 (repeat' first | ((first | with_reducible refine tr_cut (fun h => ?_) (fun h => ?_) | refine aw_condj (by cbv) (fun h => ?_) (fun h => ?_)) <;> (try simp (disch := omega) only [hj, std, cmpI, cmpB, satB, Bool.not_eq_true, Bool.not_eq_false, decide_eq_true_eq, decide_eq_false_iff_not, beq_iff_eq, bne_iff_ne, bne_eq_false_iff_eq, beq_eq_false_iff_ne, ne_eq, reduceCtorEq, not_true_eq_false, not_false_eq_true, pl0, if_true, cmpS_eq, cmpS_neq, Bool.not_eq_eq_eq_not, Bool.not_true, Bool.not_false, Bool.not_eq_true', add64, sub64] at h) <;> (try (exfalso; omega))) | (with_reducible refine tr_alt (fun h => ?_) ?_ <;> (try (exfalso; omega))) | (with_reducible first | refine tr_ob ?_ ?_ | refine tr_done ?_) | (refine aw_tr hj tok book0 (by cbv) ?_) | (refine aw_seq fun K hK => ?_) | (refine aw_tr1 hj tok book0 (by cbv) ?_) | (refine aw_skip ?_) | (refine aw_block ?_) | (refine aw_exit ?_) | (refine aw_ret ⟨.inr rfl, ret_okj hj (by cbv) ?_ ?_⟩) | (refine aw_ret ?_) | (with_reducible first | refine th_n ?_ | refine th_r ?_ | refine th_x ?_ | refine blk_n ?_ | refine blk_r ?_ | refine blk_x ?_ | refine blk_y rfl ?_) | (refine ⟨.inr rfl, ret_okj hj (by cbv) ?_ ?_⟩) | (refine ⟨.inl rfl, ret_okj hj (by cbv) ?_ ?_⟩) | (with_reducible refine ⟨_, by cbv, ?_, ?_⟩) | (with_reducible apply_assumption -symm -exfalso only [*]))
 all_goals ((try subst y_nE); (try subst y_mC); (try subst y_nM))
 all_goals (try (repeat' first | with_reducible exact obl0 | (with_reducible refine obl1 ?_ ?_)))
 all_goals (try first | with_reducible exact True.intro | ((first | refine ob_le hj ?_ | refine ob_lei hj ?_ | refine ob_inb hj ?_ | refine ob_pos hj ?_ | refine ob_ne0 hj ?_ | refine ob_eqb hj ?_); (first | rfl | first | omega | (simp only [hj, std]; split <;> omega) | (simp (disch := omega) only [hj, std, cmpI, cmpB, satB, add64, sub64, ite0, pl0, pl2, pl3, sb0, if_true, if_false, eq_self] <;> omega) | (simp (disch := omega) [hj, std, cmpI, cmpB, satB, add64, sub64, ite0, pl0, pl2, pl3, sb0, if_true, if_false, eq_self] <;> omega))) | ((rw [hbig (by omega)]; exact rfl)))
 refine aw_lpj hj [(0, .keep), (3, .keep)] [] (fun (k : Int) => stOf 20 [(0, .one (.c (.sl (nM m) (mC m)))), (3, .one (.c (vI k)))] []) (fun (k : Int) => nM m - k.toNat) (fun (k : Int) => 0 ≤ k ∧ k ≤ nM m ∧ nM m ≤ 12 ∧ ∀ i, i < k.toNat → (mAt m i).2.length ≤ 6) (0) (by generalize @nE = x_nE; generalize @mC = x_mC; generalize @nM = x_nM; cbv) ?_ (fun k hI => ?_)
 ·exact ⟨by omega, by omega, by omega, fun i h => absurd h (by simp)⟩
 obtain ⟨i1, i2, i3, hI⟩ := hI
 rcases Decidable.em (k < (nM m : Int)) with hk | hk
 ·obtain ⟨c0, c1⟩ := ha k.toNat (by omega)
  have hno := hno k.toNat (by omega)
  have f1 : (k + 1).toNat = k.toNat + 1 := by omega
  have g1 : gn (cellAt (mC m) (k.toNat * 2 + 1)) = nE (mAt m k.toNat).2 := by rw [c1]; rfl
  have hst : (mAt m k.toNat).2.length ≤ 6 → ∀ i, i < k.toNat + 1 → (mAt m i).2.length ≤ 6 := fun h i hi => by
   by_cases e : i = k.toNat
   ·subst e; exact h
   ·exact hI i (by omega)
  have hne := hne (mAt m k.toNat).2
  generalize nE (mAt m k.toNat).2 = z at *
  clear ha hI hyes hat hbig
  generalize y_nE : @nE = x_nE at *
  generalize y_mC : @mC = x_mC at *
  generalize y_nM : @nM = x_nM at *
  (repeat' first | ((first | with_reducible refine tr_cut (fun h => ?_) (fun h => ?_) | refine aw_condj (by cbv) (fun h => ?_) (fun h => ?_)) <;> (try simp (disch := omega) only [hj, std, cmpI, cmpB, satB, Bool.not_eq_true, Bool.not_eq_false, decide_eq_true_eq, decide_eq_false_iff_not, beq_iff_eq, bne_iff_ne, bne_eq_false_iff_eq, beq_eq_false_iff_ne, ne_eq, reduceCtorEq, not_true_eq_false, not_false_eq_true, pl0, if_true, cmpS_eq, cmpS_neq, Bool.not_eq_eq_eq_not, Bool.not_true, Bool.not_false, Bool.not_eq_true', g1, ite0, add64, sub64] at h) <;> (try (exfalso; omega))) | (with_reducible refine tr_alt (fun h => ?_) ?_ <;> (try (exfalso; omega))) | (with_reducible first | refine tr_ob ?_ ?_ | refine tr_done ?_) | (refine aw_tr hj tok book0 (by cbv) ?_) | (refine aw_seq fun K hK => ?_) | (refine aw_tr1 hj tok book0 (by cbv) ?_) | (refine aw_skip ?_) | (refine aw_block ?_) | (refine aw_exit ?_) | (refine aw_ret ⟨.inr rfl, ret_okj hj (by cbv) ?_ ?_⟩) | (refine aw_ret ?_) | (with_reducible first | refine th_n ?_ | refine th_r ?_ | refine th_x ?_ | refine blk_n ?_ | refine blk_r ?_ | refine blk_x ?_ | refine blk_y rfl ?_) | (refine ⟨.inr rfl, ret_okj hj (by cbv) ?_ ?_⟩) | (refine ⟨.inl rfl, ret_okj hj (by cbv) ?_ ?_⟩) | (with_reducible refine ⟨_, by cbv, ?_, ?_⟩) | (with_reducible apply_assumption -symm -exfalso only [*]))
  all_goals ((try subst y_nE); (try subst y_mC); (try subst y_nM))
  all_goals (try (repeat' first | with_reducible exact obl0 | (with_reducible refine obl1 ?_ ?_)))
  all_goals (try first | with_reducible exact True.intro | ((first | refine ob_le hj ?_ | refine ob_lei hj ?_ | refine ob_inb hj ?_ | refine ob_pos hj ?_ | refine ob_ne0 hj ?_ | refine ob_eqb hj ?_); (first | rfl | first | omega | (simp only [hj, std]; split <;> omega) | (simp (disch := omega) only [hj, std, cmpI, cmpB, satB, add64, sub64, ite0, pl0, pl2, pl3, sb0, if_true, if_false, eq_self, hc, g1] <;> omega) | (simp (disch := omega) [hj, std, cmpI, cmpB, satB, add64, sub64, ite0, pl0, pl2, pl3, sb0, if_true, if_false, eq_self, hc, g1] <;> omega))) | ((refine ob_ok hj ?_; simp only [hj, std, ite0]; exact .inr ⟨_, _, c1⟩)) | ((rw [hno (by omega)]; exact rfl)) | ((simp (disch := omega) only [hj, std, add64, ite0, f1]; first | omega | exact ⟨by omega, by omega, by omega, hst (by omega)⟩)))
 ·have e : k.toNat = m.length := by omega
  rw [e] at hI
  generalize y_nE : @nE = x_nE at *
  generalize y_mC : @mC = x_mC at *
  generalize y_nM : @nM = x_nM at *
  (repeat' first | ((first | with_reducible refine tr_cut (fun h => ?_) (fun h => ?_) | refine aw_condj (by cbv) (fun h => ?_) (fun h => ?_)) <;> (try simp (disch := omega) only [hj, std, cmpI, cmpB, satB, Bool.not_eq_true, Bool.not_eq_false, decide_eq_true_eq, decide_eq_false_iff_not, beq_iff_eq, bne_iff_ne, bne_eq_false_iff_eq, beq_eq_false_iff_ne, ne_eq, reduceCtorEq, not_true_eq_false, not_false_eq_true, pl0, if_true, cmpS_eq, cmpS_neq, Bool.not_eq_eq_eq_not, Bool.not_true, Bool.not_false, Bool.not_eq_true', add64, sub64] at h) <;> (try (exfalso; omega))) | (with_reducible refine tr_alt (fun h => ?_) ?_ <;> (try (exfalso; omega))) | (with_reducible first | refine tr_ob ?_ ?_ | refine tr_done ?_) | (refine aw_tr hj tok book0 (by cbv) ?_) | (refine aw_seq fun K hK => ?_) | (refine aw_tr1 hj tok book0 (by cbv) ?_) | (refine aw_skip ?_) | (refine aw_block ?_) | (refine aw_exit ?_) | (refine aw_ret ⟨.inr rfl, ret_okj hj (by cbv) ?_ ?_⟩) | (refine aw_ret ?_) | (with_reducible first | refine th_n ?_ | refine th_r ?_ | refine th_x ?_ | refine blk_n ?_ | refine blk_r ?_ | refine blk_x ?_ | refine blk_y rfl ?_) | (refine ⟨.inr rfl, ret_okj hj (by cbv) ?_ ?_⟩) | (refine ⟨.inl rfl, ret_okj hj (by cbv) ?_ ?_⟩) | (with_reducible refine ⟨_, by cbv, ?_, ?_⟩) | (with_reducible apply_assumption -symm -exfalso only [*]))
  all_goals ((try subst y_nE); (try subst y_mC); (try subst y_nM))
  all_goals (try (repeat' first | with_reducible exact obl0 | with_reducible refine obl1 ?_ ?_))
  all_goals (try first | with_reducible exact True.intro | ((first | refine ob_le hj ?_ | refine ob_lei hj ?_ | refine ob_inb hj ?_ | refine ob_pos hj ?_ | refine ob_ne0 hj ?_ | refine ob_eqb hj ?_); (first | rfl | first | omega | (simp only [hj, std]; split <;> omega) | (simp (disch := omega) only [hj, std, cmpI, cmpB, satB, add64, sub64, ite0, pl0, pl2, pl3, sb0, if_true, if_false, eq_self] <;> omega) | (simp (disch := omega) [hj, std, cmpI, cmpB, satB, add64, sub64, ite0, pl0, pl2, pl3, sb0, if_true, if_false, eq_self] <;> omega))) | ((rw [hyes (by omega) hI]; exact rfl)))
theorem few_szT {m : List Sta} (h : fewM m = true) : SzM m := by
 obtain ⟨h1, h2⟩ := of_decide_eq_true h
 exact ⟨by omega, fun s hs => by have := h2 s hs; omega⟩
theorem rise_edges {terms n : Int} : ∀ (l : List Eg) (q : Int), riseG terms n q l = true → ∀ e ∈ l, 0 ≤ e.2 ∧ e.2 < n
 | [], _, _ => fun e he => by cases he
 | x :: l, q, h => fun e he => by
  unfold riseG at h
  split at h
  ·rename_i hx
   rcases List.mem_cons.1 he with rfl | he
   ·exact ⟨hx.2.2.1, hx.2.2.2⟩
   ·exact rise_edges l _ h e he
  ·cases h
theorem valid_edges {terms n : Int} : ∀ (m : List Sta), validG terms n m = true → ∀ s ∈ m, ∀ e ∈ s.2, 0 ≤ e.2 ∧ e.2 < n
 | [], _ => fun s hs => by cases hs
 | x :: m, h => fun s hs => by
  unfold validG at h
  split at h
  ·rename_i hx
   rcases List.mem_cons.1 hs with rfl | hs
   ·exact rise_edges _ _ hx.2
   ·exact valid_edges m h s hs
  ·cases h
theorem validM_edges {m : List Sta} {terms : Int} (h : validM m terms = true) : ∀ i, i < m.length → ∀ e ∈ (mAt m i).2, 0 ≤ e.2 ∧ e.2 < m.length := fun i hi e he => by
 unfold validM at h
 rw [Bool.and_eq_true] at h
 rw [mAt_get hi] at he
 exact valid_edges m h.1 _ (List.getElem_mem hi) e he
def fewQ24 (cs : List C) : Int := if fewM (stsOf cs) = true then 1 else 0
def vaQ24 (cs : List C) (n : Int) : Bool := validM (stsOf cs) n
def ruQ24 (cs : List C) (w : ByteArray) : Int := runMw (stsOf cs) w
def bookRu (x_stsOf : List C → List Sta) (x_stepIQ : List Sta → Int → Int → Int) (x_stepBQ : List Sta → Int → Int → Bool) (x_fewQ24 : List C → Int) (x_vaQ24 : List C → Int → Bool) (x_ruQ24 : List C → ByteArray → Int) (x_goQ : List Sta → Int → Int → Int) : Book := fun f xs => match f, xs with
 | 7, [] => some (ret1 (.st (vB true)), [])
 | 15, [.v false [.sl _ cs]] => some (ret1 (.st (vI (x_fewQ24 cs))), [])
 | 16, [.v false [.sl _ cs], .v false [.val (.int .i64 n)]] => some (ret1 (.st (vB (x_vaQ24 cs n))), [])
 | 10, [.v false [.sl _ cs], .v false [.val (.int .i64 n)]] => some (ret1 (.st (vB (x_vaQ24 cs n))), [])
 | 17, [.v false [.sl _ cs], .v false [.val (.int .i64 s)], .v false [.val (.int .i64 t)]] => some (rets [(false, [.st (vI (x_stepIQ (x_stsOf cs) s t))]), (false, [.st (vB (x_stepBQ (x_stsOf cs) s t))])], [])
 | 18, [.v false [.sl _ cs], .v false [.val (.int .i64 s)], .v false [.val (.int .i64 t)]] => some (ret1 (.st (vI (x_goQ (x_stsOf cs) s t))), [])
 | 12, [.v false [.sl _ cs], .v false [.val (.string w)]] => some (ret1 (.st (vI (x_ruQ24 cs w))), [])
 | 12, [.v false [.nil], .v false [.val (.string w)]] => some (ret1 (.st (vI (-1))), [])
 | 19, [.v false [.sl _ cs], .v false [.val (.string w)]] => some (ret1 (.st (vI (x_ruQ24 cs w))), [])
 | _, _ => none
theorem c_awake24 : pc 7 [] (ret1 (.st (vB true))) := ⟨enters Try.func7 (by kernel_rfl) (by kernel_rfl), pc_awake24⟩
theorem pc_TrieRuns (m : List Sta) (terms s term : Int) (w : ByteArray) (hm : m.length ≤ 4398046510976) (hw : w.size < 4611686018427387904) :
  PC Try.prog T 5 [.v false [.sl (nM m) (mC m)], .v false [vI terms], .v false [vI s], .v false [vI term], .v false [vS w]] (ret1 (.st (vB true))) [] := by
 have em := stsOf_mC m
 have cW := c_awake24
 have cF : pc 15 [.v false [.sl (nM m) (mC m)]] (ret1 (.st (vI (fewQ24 (mC m))))) := ⟨enters Try.func15 (by kernel_rfl) (by kernel_rfl), by unfold fewQ24; rw [em]; exact pc_FewT m hm⟩
 have eF : fewQ24 (mC m) = if fewM m = true then 1 else 0 := by unfold fewQ24; rw [em]
 have n1 := nM_eq m
 refine pc_of tok Try.func5 rfl (by rfl) ?_
 obtain ⟨j, hj⟩ : ∃ j : J, j = std Try.prog T := ⟨_, rfl⟩
 have hm : Try.prog.follows .mixedOrders = true := by kernel_rfl
 rcases Bool.eq_false_or_eq_true (fewM m) with hf | hf
 all_goals rw [hf] at eF
 rotate_left
 ·have eF : fewQ24 (mC m) = 0 := eF
  generalize y_stsOf : @stsOf = x_stsOf at *
  generalize y_stepIQ : @stepIQ = x_stepIQ at *
  generalize y_stepBQ : @stepBQ = x_stepBQ at *
  generalize y_fewQ24 : @fewQ24 = x_fewQ24 at *
  generalize y_vaQ24 : @vaQ24 = x_vaQ24 at *
  generalize y_ruQ24 : @ruQ24 = x_ruQ24 at *
  generalize y_goQ : @goQ = x_goQ at *
  generalize y_mC : @mC = x_mC at *
  generalize y_nM : @nM = x_nM at *
  (repeat' first | ((first | with_reducible refine tr_cut (fun h => ?_) (fun h => ?_) | refine aw_condj (by cbv) (fun h => ?_) (fun h => ?_)) <;> (try simp (disch := omega) only [hj, std, cmpI, cmpB, satB, Bool.not_eq_true, Bool.not_eq_false, decide_eq_true_eq, decide_eq_false_iff_not, beq_iff_eq, bne_iff_ne, bne_eq_false_iff_eq, beq_eq_false_iff_ne, ne_eq, reduceCtorEq, not_true_eq_false, not_false_eq_true, pl0, if_true, cmpS_eq, cmpS_neq, Bool.not_eq_eq_eq_not, Bool.not_true, Bool.not_false, Bool.not_eq_true', eF, add64, sub64] at h) <;> (try (exfalso; omega))) | (with_reducible refine tr_alt (fun h => ?_) ?_ <;> (try (exfalso; omega))) | (with_reducible first | refine tr_ob ?_ ?_ | refine tr_done ?_) | (refine aw_tr hj tok (bookRu x_stsOf x_stepIQ x_stepBQ x_fewQ24 x_vaQ24 x_ruQ24 x_goQ) (by cbv) ?_) | (refine aw_seq fun K hK => ?_) | (refine aw_tr1 hj tok (bookRu x_stsOf x_stepIQ x_stepBQ x_fewQ24 x_vaQ24 x_ruQ24 x_goQ) (by cbv) ?_) | (refine aw_skip ?_) | (refine aw_block ?_) | (refine aw_exit ?_) | (refine aw_ret ⟨.inr rfl, ret_okj hj (by cbv) ?_ ?_⟩) | (refine aw_ret ?_) | (with_reducible first | refine th_n ?_ | refine th_r ?_ | refine th_x ?_ | refine blk_n ?_ | refine blk_r ?_ | refine blk_x ?_ | refine blk_y rfl ?_) | (refine ⟨.inr rfl, ret_okj hj (by cbv) ?_ ?_⟩) | (refine ⟨.inl rfl, ret_okj hj (by cbv) ?_ ?_⟩) | (with_reducible apply_assumption -symm -exfalso only [*]))
  all_goals ((try subst y_stsOf); (try subst y_stepIQ); (try subst y_stepBQ); (try subst y_fewQ24); (try subst y_vaQ24); (try subst y_ruQ24); (try subst y_goQ); (try subst y_mC); (try subst y_nM))
  all_goals (try (repeat' first | with_reducible exact obl0 | (with_reducible refine obl1 ?_ ?_)))
  all_goals (try first | with_reducible exact True.intro | ((first | refine ob_pc hj ?_ | refine ob_pcn hj ?_); (try rw [hj]); first | exact cF | exact cW) | ((first | refine ob_le hj ?_ | refine ob_lei hj ?_ | refine ob_inb hj ?_ | refine ob_pos hj ?_ | refine ob_ne0 hj ?_ | refine ob_eqb hj ?_); (first | rfl | first | omega | (simp only [hj, std]; split <;> omega) | (simp (disch := omega) only [hj, std, cmpI, cmpB, satB, add64, sub64, ite0, pl0, pl2, pl3, sb0, if_true, if_false, eq_self] <;> omega) | (simp (disch := omega) [hj, std, cmpI, cmpB, satB, add64, sub64, ite0, pl0, pl2, pl3, sb0, if_true, if_false, eq_self] <;> omega))) | (exact rfl))
 have eF : fewQ24 (mC m) = 1 := eF
 have hs := few_szT hf
 have cV : pc 16 [.v false [.sl (nM m) (mC m)], .v false [vI terms]] (ret1 (.st (vB (vaQ24 (mC m) terms)))) := ⟨enters Try.func16 (by kernel_rfl) (by kernel_rfl), by unfold vaQ24; rw [em]; exact pc_ValidT m terms hs⟩
 have cV2 : pc 10 [.v false [.sl (nM m) (mC m)], .v false [vI terms]] (ret1 (.st (vB (vaQ24 (mC m) terms)))) := ⟨enters Try.func10 (by kernel_rfl) (by kernel_rfl), by unfold vaQ24; rw [em]; exact pc_Valid24 m terms hs⟩
 have eV : vaQ24 (mC m) terms = validM m terms := by unfold vaQ24; rw [em]
 rcases Bool.eq_false_or_eq_true (validM m terms) with hv | hv
 all_goals rw [hv] at eV
 rotate_left
 ·generalize y_stsOf : @stsOf = x_stsOf at *
  generalize y_stepIQ : @stepIQ = x_stepIQ at *
  generalize y_stepBQ : @stepBQ = x_stepBQ at *
  generalize y_fewQ24 : @fewQ24 = x_fewQ24 at *
  generalize y_vaQ24 : @vaQ24 = x_vaQ24 at *
  generalize y_ruQ24 : @ruQ24 = x_ruQ24 at *
  generalize y_goQ : @goQ = x_goQ at *
  generalize y_mC : @mC = x_mC at *
  generalize y_nM : @nM = x_nM at *
  (repeat' first | ((first | with_reducible refine tr_cut (fun h => ?_) (fun h => ?_) | refine aw_condj (by cbv) (fun h => ?_) (fun h => ?_)) <;> (try simp (disch := omega) only [hj, std, cmpI, cmpB, satB, Bool.not_eq_true, Bool.not_eq_false, decide_eq_true_eq, decide_eq_false_iff_not, beq_iff_eq, bne_iff_ne, bne_eq_false_iff_eq, beq_eq_false_iff_ne, ne_eq, reduceCtorEq, not_true_eq_false, not_false_eq_true, pl0, if_true, cmpS_eq, cmpS_neq, Bool.not_eq_eq_eq_not, Bool.not_true, Bool.not_false, Bool.not_eq_true', eF, eV, add64, sub64] at h) <;> (try (exfalso; omega))) | (with_reducible refine tr_alt (fun h => ?_) ?_ <;> (try (exfalso; omega))) | (with_reducible first | refine tr_ob ?_ ?_ | refine tr_done ?_) | (refine aw_tr hj tok (bookRu x_stsOf x_stepIQ x_stepBQ x_fewQ24 x_vaQ24 x_ruQ24 x_goQ) (by cbv) ?_) | (refine aw_seq fun K hK => ?_) | (refine aw_tr1 hj tok (bookRu x_stsOf x_stepIQ x_stepBQ x_fewQ24 x_vaQ24 x_ruQ24 x_goQ) (by cbv) ?_) | (refine aw_skip ?_) | (refine aw_block ?_) | (refine aw_exit ?_) | (refine aw_ret ⟨.inr rfl, ret_okj hj (by cbv) ?_ ?_⟩) | (refine aw_ret ?_) | (with_reducible first | refine th_n ?_ | refine th_r ?_ | refine th_x ?_ | refine blk_n ?_ | refine blk_r ?_ | refine blk_x ?_ | refine blk_y rfl ?_) | (refine ⟨.inr rfl, ret_okj hj (by cbv) ?_ ?_⟩) | (refine ⟨.inl rfl, ret_okj hj (by cbv) ?_ ?_⟩) | (with_reducible apply_assumption -symm -exfalso only [*]))
  all_goals ((try subst y_stsOf); (try subst y_stepIQ); (try subst y_stepBQ); (try subst y_fewQ24); (try subst y_vaQ24); (try subst y_ruQ24); (try subst y_goQ); (try subst y_mC); (try subst y_nM))
  all_goals (try (repeat' first | with_reducible exact obl0 | (with_reducible refine obl1 ?_ ?_)))
  all_goals (try first | with_reducible exact True.intro | ((first | refine ob_pc hj ?_ | refine ob_pcn hj ?_); (try rw [hj]); first | exact cF | exact cW | exact cV | exact cV2) | ((first | refine ob_le hj ?_ | refine ob_lei hj ?_ | refine ob_inb hj ?_ | refine ob_pos hj ?_ | refine ob_ne0 hj ?_ | refine ob_eqb hj ?_); (first | rfl | first | omega | (simp only [hj, std]; split <;> omega) | (simp (disch := omega) only [hj, std, cmpI, cmpB, satB, add64, sub64, ite0, pl0, pl2, pl3, sb0, if_true, if_false, eq_self] <;> omega) | (simp (disch := omega) [hj, std, cmpI, cmpB, satB, add64, sub64, ite0, pl0, pl2, pl3, sb0, if_true, if_false, eq_self] <;> omega))) | (exact rfl))
 have hve := validM_edges hv
 have cS : pc 17 [.v false [.sl (nM m) (mC m)], .v false [vI s], .v false [vI term]] (rets [(false, [.st (vI (stepIQ (stsOf (mC m)) s term))]), (false, [.st (vB (stepBQ (stsOf (mC m)) s term))])]) := ⟨enters Try.func17 (by kernel_rfl) (by kernel_rfl), by rw [em]; exact pc_Step m s term hs hve⟩
 have cG : pc 18 [.v false [.sl (nM m) (mC m)], .v false [vI s], .v false [vI term]] (ret1 (.st (vI (goQ (stsOf (mC m)) s term)))) := ⟨enters Try.func18 (by kernel_rfl) (by kernel_rfl), by rw [em]; exact pc_Go24 m s term hs⟩
 have cR : pc 12 [.v false [.sl (nM m) (mC m)], .v false [vS w]] (ret1 (.st (vI (ruQ24 (mC m) w)))) := by unfold ruQ24; rw [em]; exact c_Run24T hs hw hve
 have cR2 : pc 19 [.v false [.sl (nM m) (mC m)], .v false [vS w]] (ret1 (.st (vI (ruQ24 (mC m) w)))) := by unfold ruQ24; rw [em]; exact ⟨enters Try.func19 (by kernel_rfl) (by kernel_rfl), pc_Run24 m w hs hw⟩
 have cN : pc 12 [.v false [.nil], .v false [vS w]] (ret1 (.st (vI (-1)))) := by
  have h0 := c_Run24T (m := []) (w := w) ⟨by simp, by simp⟩ hw (fun i hi => absurd hi (by simp))
  rw [runMw_nil rfl] at h0
  exact ⟨h0.1, pc_le h0.2 (.cons (.v (.cons .nil (LeCs.refl []))) (.cons .refl .nil))⟩
 have eB : stepBQ (stsOf (mC m)) s term = decide (0 ≤ goQ (stsOf (mC m)) s term) := by rw [em]; rfl
 have eI : stepIQ (stsOf (mC m)) s term = if 0 ≤ goQ (stsOf (mC m)) s term then goQ (stsOf (mC m)) s term else 0 := by rw [em]; rfl
 have hgE : goQ (stsOf (mC m)) s term = goM m s term := by rw [em]; rfl
 rcases Decidable.em (0 ≤ goQ (stsOf (mC m)) s term) with hg | hg
 ·rw [decide_eq_true hg] at eB
  rw [if_pos hg] at eI
  have hgq : decide (goQ (stsOf (mC m)) s term ≥ 0) = true := decide_eq_true hg
  clear hgE
  generalize y_stsOf : @stsOf = x_stsOf at *
  generalize y_stepIQ : @stepIQ = x_stepIQ at *
  generalize y_stepBQ : @stepBQ = x_stepBQ at *
  generalize y_fewQ24 : @fewQ24 = x_fewQ24 at *
  generalize y_vaQ24 : @vaQ24 = x_vaQ24 at *
  generalize y_ruQ24 : @ruQ24 = x_ruQ24 at *
  generalize y_goQ : @goQ = x_goQ at *
  generalize y_mC : @mC = x_mC at *
  generalize y_nM : @nM = x_nM at *
  (repeat' first | ((first | with_reducible refine tr_cut (fun h => ?_) (fun h => ?_) | refine aw_condj (by cbv) (fun h => ?_) (fun h => ?_)) <;> (try simp (disch := omega) only [hj, std, cmpI, cmpB, satB, Bool.not_eq_true, Bool.not_eq_false, decide_eq_true_eq, decide_eq_false_iff_not, beq_iff_eq, bne_iff_ne, bne_eq_false_iff_eq, beq_eq_false_iff_ne, ne_eq, reduceCtorEq, not_true_eq_false, not_false_eq_true, pl0, if_true, cmpS_eq, cmpS_neq, Bool.not_eq_eq_eq_not, Bool.not_true, Bool.not_false, Bool.not_eq_true', eF, eV, eB, eI, hgq, add64, sub64] at h) <;> (try (exfalso; omega))) | (with_reducible refine tr_alt (fun h => ?_) ?_ <;> (try (exfalso; omega))) | (with_reducible first | refine tr_ob ?_ ?_ | refine tr_done ?_) | (refine aw_tr hj tok (bookRu x_stsOf x_stepIQ x_stepBQ x_fewQ24 x_vaQ24 x_ruQ24 x_goQ) (by cbv) ?_) | (refine aw_seq fun K hK => ?_) | (refine aw_tr1 hj tok (bookRu x_stsOf x_stepIQ x_stepBQ x_fewQ24 x_vaQ24 x_ruQ24 x_goQ) (by cbv) ?_) | (refine aw_skip ?_) | (refine aw_block ?_) | (refine aw_exit ?_) | (refine aw_ret ⟨.inr rfl, ret_okj hj (by cbv) ?_ ?_⟩) | (refine aw_ret ?_) | (with_reducible first | refine th_n ?_ | refine th_r ?_ | refine th_x ?_ | refine blk_n ?_ | refine blk_r ?_ | refine blk_x ?_ | refine blk_y rfl ?_) | (refine ⟨.inr rfl, ret_okj hj (by cbv) ?_ ?_⟩) | (refine ⟨.inl rfl, ret_okj hj (by cbv) ?_ ?_⟩) | (with_reducible apply_assumption -symm -exfalso only [*]))
  all_goals ((try subst y_stsOf); (try subst y_stepIQ); (try subst y_stepBQ); (try subst y_fewQ24); (try subst y_vaQ24); (try subst y_ruQ24); (try subst y_goQ); (try subst y_mC); (try subst y_nM))
  all_goals (try (repeat' first | with_reducible exact obl0 | (with_reducible refine obl1 ?_ ?_)))
  all_goals (try first | with_reducible exact True.intro | ((first | refine ob_pc hj ?_ | refine ob_pcn hj ?_); (try rw [hj]); first | exact cF | exact cW | exact cV | exact cV2 | exact cS | exact cG | exact cR | exact cR2 | exact cN) | ((first | refine ob_le hj ?_ | refine ob_lei hj ?_ | refine ob_inb hj ?_ | refine ob_pos hj ?_ | refine ob_ne0 hj ?_ | refine ob_eqb hj ?_); (first | rfl | first | omega | (simp only [hj, std]; split <;> omega) | (simp (disch := omega) only [hj, std, cmpI, cmpB, satB, add64, sub64, ite0, pl0, pl2, pl3, sb0, if_true, if_false, eq_self] <;> omega) | (simp (disch := omega) [hj, std, cmpI, cmpB, satB, add64, sub64, ite0, pl0, pl2, pl3, sb0, if_true, if_false, eq_self] <;> omega))) | ((subst hj; exact rfl)) | ((exfalso; omega)))
 ·rw [decide_eq_false hg] at eB
  rw [if_neg hg] at eI
  have hgq : decide (goQ (stsOf (mC m)) s term ≥ 0) = false := decide_eq_false hg
  clear hgE
  generalize y_stsOf : @stsOf = x_stsOf at *
  generalize y_stepIQ : @stepIQ = x_stepIQ at *
  generalize y_stepBQ : @stepBQ = x_stepBQ at *
  generalize y_fewQ24 : @fewQ24 = x_fewQ24 at *
  generalize y_vaQ24 : @vaQ24 = x_vaQ24 at *
  generalize y_ruQ24 : @ruQ24 = x_ruQ24 at *
  generalize y_goQ : @goQ = x_goQ at *
  generalize y_mC : @mC = x_mC at *
  generalize y_nM : @nM = x_nM at *
  (repeat' first | ((first | with_reducible refine tr_cut (fun h => ?_) (fun h => ?_) | refine aw_condj (by cbv) (fun h => ?_) (fun h => ?_)) <;> (try simp (disch := omega) only [hj, std, cmpI, cmpB, satB, Bool.not_eq_true, Bool.not_eq_false, decide_eq_true_eq, decide_eq_false_iff_not, beq_iff_eq, bne_iff_ne, bne_eq_false_iff_eq, beq_eq_false_iff_ne, ne_eq, reduceCtorEq, not_true_eq_false, not_false_eq_true, pl0, if_true, cmpS_eq, cmpS_neq, Bool.not_eq_eq_eq_not, Bool.not_true, Bool.not_false, Bool.not_eq_true', eF, eV, eB, eI, hgq, add64, sub64] at h) <;> (try (exfalso; omega))) | (with_reducible refine tr_alt (fun h => ?_) ?_ <;> (try (exfalso; omega))) | (with_reducible first | refine tr_ob ?_ ?_ | refine tr_done ?_) | (refine aw_tr hj tok (bookRu x_stsOf x_stepIQ x_stepBQ x_fewQ24 x_vaQ24 x_ruQ24 x_goQ) (by cbv) ?_) | (refine aw_seq fun K hK => ?_) | (refine aw_tr1 hj tok (bookRu x_stsOf x_stepIQ x_stepBQ x_fewQ24 x_vaQ24 x_ruQ24 x_goQ) (by cbv) ?_) | (refine aw_skip ?_) | (refine aw_block ?_) | (refine aw_exit ?_) | (refine aw_ret ⟨.inr rfl, ret_okj hj (by cbv) ?_ ?_⟩) | (refine aw_ret ?_) | (with_reducible first | refine th_n ?_ | refine th_r ?_ | refine th_x ?_ | refine blk_n ?_ | refine blk_r ?_ | refine blk_x ?_ | refine blk_y rfl ?_) | (refine ⟨.inr rfl, ret_okj hj (by cbv) ?_ ?_⟩) | (refine ⟨.inl rfl, ret_okj hj (by cbv) ?_ ?_⟩) | (with_reducible apply_assumption -symm -exfalso only [*]))
  all_goals ((try subst y_stsOf); (try subst y_stepIQ); (try subst y_stepBQ); (try subst y_fewQ24); (try subst y_vaQ24); (try subst y_ruQ24); (try subst y_goQ); (try subst y_mC); (try subst y_nM))
  all_goals (try (repeat' first | with_reducible exact obl0 | with_reducible refine obl1 ?_ ?_))
  all_goals (try first | with_reducible exact True.intro | ((first | refine ob_pc hj ?_ | refine ob_pcn hj ?_); (try rw [hj]); first | exact cF | exact cW | exact cV | exact cV2 | exact cS | exact cG | exact cR | exact cR2 | exact cN) | ((first | refine ob_le hj ?_ | refine ob_lei hj ?_ | refine ob_inb hj ?_ | refine ob_pos hj ?_ | refine ob_ne0 hj ?_ | refine ob_eqb hj ?_); (first | rfl | first | omega | (simp only [hj, std]; split <;> omega) | (simp (disch := omega) only [hj, std, cmpI, cmpB, satB, add64, sub64, ite0, pl0, pl2, pl3, sb0, if_true, if_false, eq_self] <;> omega) | (simp (disch := omega) [hj, std, cmpI, cmpB, satB, add64, sub64, ite0, pl0, pl2, pl3, sb0, if_true, if_false, eq_self] <;> omega))) | ((subst hj; exact rfl)) | ((exfalso; omega)))
end Go.Proofs.Ytcpcghnpoekhpaa.A
/- TrieRuns: the walk, as9 the row's step asks for it. -/
set_option linter.unusedSimpArgs false
set_option linter.unusedVariables false
set_option maxRecDepth 100000
set_option maxHeartbeats 4000000
namespace Go.Proofs.Ytcpcghnpoekhpaa
open Go Go.RowKit
theorem trieRuns_walk (w : World) (a : Option Addr) (len cap : Nat) (m : List A.Sta) (R : A.RMac w (Value.slice a len cap).cells.toList m) (x : Int) (hx : -9223372036854775808 ≤ x ∧ x ≤ 9223372036854775807) (y : Int) (hy : -9223372036854775808 ≤ y ∧ y ≤ 9223372036854775807) (z : Int) (hz : -9223372036854775808 ≤ z ∧ z ≤ 9223372036854775807) (s : ByteArray) (hs : s.size ≤ 140737488351232) : Calls Try.prog 5 #[.slice a len cap, .int .i64 x, .int .i64 y, .int .i64 z, .string s] w fun e w' => e = .returned (.bool true) ∧ Below w.heap.size w w' :=
  A.walk_of_pc (vs := [.slice a len cap, .int .i64 x, .int .i64 y, .int .i64 z, .string s]) (A.pc_TrieRuns m x y z s (A.mac_sz R).1 (by omega)) (by simp [A.Arg.asRoot]) (fun b => b < w.heap.size) (fun _ h => h) rfl (fun i h h2 => by
    have h3 : i < 5 := h
    match i, h3 with
    | 0, _ => exact ⟨_, rfl, A.mac_arg R⟩
    | 1, _ => exact ⟨_, rfl, .val rfl⟩
    | 2, _ => exact ⟨_, rfl, .val rfl⟩
    | 3, _ => exact ⟨_, rfl, .val rfl⟩
    | 4, _ => exact ⟨_, rfl, .val rfl⟩)
end Go.Proofs.Ytcpcghnpoekhpaa
