/- What DirWhole needs beyond, part 1. -/
import Derived.Test.YtnmlcfjljeccnaaMz5
import Derived.WalkKit
import Derived.WalkSpells
import Derived.WalkLawsBesides
import Derived.Lib.Hide
import Derived.Laws.AppendOwnNone
import Derived.Laws.CopyOwn
import Derived.BigQuiet
import Derived.Deep.QuietTactic
import Derived.Deep.RegionHeld3
import Derived.Deep.AppendLies
import Derived.OrdersHeld
import Derived.MapKept
import Derived.Laws.StructEq
import Derived.Great.BuildSlice
import Derived.Laws.IdiomStrings
import Derived.Lib.AppendZeros
import Derived.ProofKit
import Derived.OpenShut
import Derived.SizedLaws
import Derived.Deep.Slices
import Derived.Deep.Strs
import Derived.Test.YtnmlcfjljeccnaaProg
import Derived.Shelf.SlGeneric
import Derived.Shelf.SortM.Plain
import Derived.Shelf.SortM.SortNone
import Derived.Ground.SlgmProg
import Derived.Lib.OwnBridge
import Derived.Sort.OwnSorted
import Derived.Maps.Range
/- The ghost machine: a nil slice is an empty one, too; contracts at such arguments. -/
set_option linter.unusedSimpArgs false
set_option linter.unusedVariables false
set_option maxRecDepth 100000
set_option maxHeartbeats 4000000
namespace Go.Proofs.Ytnmlcfjljeccnaa.A
open Go
theorem pc_le {P : Program} {T : TT} {f : FuncId} {x y : List Arg} {ret : RV} {upd : List Root} (h : PC P T f y ret upd) (hl : LeAs x y) : PC P T f x ret upd := by
 intro w S bx ph vs hh hv ha
 rw [hl.roots] at hh ⊢
 exact h w S bx ph vs hh (hv.trans hl.reals) fun i h1 h2 => (hl.at i (by rw [hl.len]; exact h1) h1).rep (ha i (by rw [hl.len]; exact h1) h2)
end Go.Proofs.Ytnmlcfjljeccnaa.A
/- The law of layer 9: DirWhole: the walk. -/
set_option linter.unusedSimpArgs false
set_option linter.unusedVariables false
set_option maxRecDepth 100000
set_option maxHeartbeats 4000000
namespace Go.Proofs.Ytnmlcfjljeccnaa.A
open Go
abbrev kbT : TypeId := 4
def bookDW (x_nsN : GM → Nat) (x_nsC : GM → List C) (x_fewA : Nat → List C → Bool) (x_awN : GM) (x_hasD : GM → ByteArray → Bool) (x_getD : GM → ByteArray → Int) (c1 : GM) : Book := fun f xs => match f, xs with
 | 28, [.v false [.sl n cs]] => some (ret1 (.st (vB (x_fewA n cs))), [])
 | 29, _ => some (ret1 (.st (vB true)), [])
 | 30, _ => some (⟨false, []⟩, [.box [.map .str x_awN, .map .str x_awN, .own oT 0 []]])
 | 32, [.root (.box [.map _ m, .map _ m2, .own _ n os])] => some (ret1 (.own sT (x_nsN m) (x_nsC m)), [.box [.map .str m, .map .str m2, .own oT n os]])
 | 33, [.root (.box [.map _ m, .map _ m2, .own _ n os])] => some (ret1 (.st (vI n)), [.box [.map .str m, .map .str m2, .own oT n os]])
 | 34, [.root (.box [.map _ m, .map _ m2, .own _ n os]), .v false [.val (.string x)]] => some (⟨true, [(false, [.st (vI (x_getD m x))]), (false, [.st (vB (x_hasD m x))])]⟩, [.box [.map .str m, .map .str m2, .own oT n os], .none])
 | 36, [.root (.box _), .v false [.sl _ _]] => some (⟨true, []⟩, [.box [.map .str c1, .map .str c1, .own oT 0 []], .none])
 | 36, [.root (.box [_, .map _ m2, _]), .v false [.nil]] => some (⟨true, []⟩, [.box [.map .str m2, .map .str m2, .own oT 0 []], .none])
 | _, _ => none
theorem pc_DirWholeL (m : Nat) (ac : List C) (hm5 : ac.length = m * 5) (hmm : m ≤ 140737488355328) (hA : ∀ k, k < m → ∃ kd x y q kn ks, ActD ac k kd x y q kn ks) :
  PC Try.prog T 6 [.v false [.sl m ac]] (ret1 (.st (vB true))) [] := by
 have cF : pc 28 [.v false [.sl m ac]] (ret1 (.st (vB (fewA m ac)))) := ⟨enters Try.func28 (by kernel_rfl) (by kernel_rfl), pc_fewA m ac hm5 fun k hk => by
  obtain ⟨kd, x, y, q, kn, ks, h⟩ := hA k hk
  exact ⟨by rw [h.a1]; exact ⟨_, rfl⟩, by rw [h.a2]; exact ⟨_, rfl⟩, by rw [h.a4]; exact .inr ⟨_, _, rfl⟩⟩⟩
 have eF : fewA m ac = true → m ≤ 40 ∧ ∀ k, k < m → (gs (cellAt ac (k * 5 + 1))).size ≤ 20 ∧ (gs (cellAt ac (k * 5 + 2))).size ≤ 20 ∧ gn (cellAt ac (k * 5 + 4)) ≤ 40 := fun h => of_decide_eq_true h
 refine pc_of tok Try.func6 rfl (by rfl) ?_
 obtain ⟨j, hj⟩ : ∃ j : J, j = std Try.prog T := ⟨_, rfl⟩
 have hm : Try.prog.follows .mixedOrders = true := by kernel_rfl
 generalize y_nsN : @nsN = x_nsN at *
 generalize y_nsC : @nsC = x_nsC at *
 generalize y_fewA : @fewA = x_fewA at *
 generalize y_awN : @awN = x_awN at *
 generalize y_hasD : @hasD = x_hasD at *
 generalize y_getD : @getD = x_getD at *
 generalize y_nC : @nC = x_nC at *
 generalize y_nN : @nN = x_nN at *
 generalize y_fiC : @fiC = x_fiC at *
 generalize y_sC : @sC = x_sC at *
 (repeat' first | ((first | with_reducible refine tr_cut (fun h => ?_) (fun h => ?_) | refine aw_condj (by cbv) (fun h => ?_) (fun h => ?_)) <;> (try simp (disch := omega) only [hj, std, cmpI, cmpB, satB, Bool.not_eq_true, Bool.not_eq_false, decide_eq_true_eq, decide_eq_false_iff_not, beq_iff_eq, bne_iff_ne, bne_eq_false_iff_eq, beq_eq_false_iff_ne, ne_eq, reduceCtorEq, not_true_eq_false, not_false_eq_true, pl0, if_true, cmpS_eq, cmpS_neq, Bool.not_eq_eq_eq_not, Bool.not_true, Bool.not_false, Bool.not_eq_true', add64, sub64] at h) <;> (try (exfalso; omega))) | (with_reducible refine tr_alt (fun h => ?_) ?_ <;> (try (exfalso; omega))) | (with_reducible first | refine tr_ob ?_ ?_ | refine tr_done ?_) | (refine aw_tr hj tok ((bookDW x_nsN x_nsC x_fewA x_awN x_hasD x_getD) awN) (by cbv) ?_) | (refine aw_seq fun K hK => ?_) | (refine aw_tr1 hj tok ((bookDW x_nsN x_nsC x_fewA x_awN x_hasD x_getD) awN) (by cbv) ?_) | (refine aw_skip ?_) | (refine aw_block ?_) | (refine aw_exit ?_) | (refine aw_ret ⟨.inr rfl, ret_okj hj (by cbv) ?_ ?_⟩) | (refine aw_ret ?_) | (with_reducible first | refine th_n ?_ | refine th_r ?_ | refine th_x ?_ | refine blk_n ?_ | refine blk_r ?_ | refine blk_x ?_ | refine blk_y rfl ?_) | (refine ⟨.inr rfl, ret_okj hj (by cbv) ?_ ?_⟩) | (refine ⟨.inl rfl, ret_okj hj (by cbv) ?_ ?_⟩) | (with_reducible first | refine ⟨(_, _, _), by cbv, ?_, ?_⟩ | refine ⟨_, by cbv, ?_, ?_⟩) | (with_reducible apply_assumption -symm -exfalso only [*]))
 all_goals ((try subst y_nsN); (try subst y_nsC); (try subst y_fewA); (try subst y_awN); (try subst y_hasD); (try subst y_getD); (try subst y_nC); (try subst y_nN); (try subst y_fiC); (try subst y_sC))
 all_goals (try (have hfw := eF (by assumption)))
 all_goals (try (repeat' first | with_reducible exact obl0 | (with_reducible refine obl1 ?_ ?_)))
 all_goals (try first | with_reducible exact True.intro | ((first | refine ob_pc hj ?_ | refine ob_pcn hj ?_); (try rw [hj]); first | exact cF | exact c_awake09 | exact c_NewDn) | ((first | refine ob_le hj ?_ | refine ob_lei hj ?_ | refine ob_inb hj ?_ | refine ob_pos hj ?_ | refine ob_ne0 hj ?_ | refine ob_eqb hj ?_); (first | rfl | first | omega | (simp only [hj, std]; split <;> omega) | (simp (disch := omega) only [hj, std, cmpI, cmpB, satB, add64, sub64, ite0, pl0, pl2, pl3, sb0, if_true, if_false, eq_self] <;> omega) | (simp (disch := omega) [hj, std, cmpI, cmpB, satB, add64, sub64, ite0, pl0, pl2, pl3, sb0, if_true, if_false, eq_self] <;> omega))) | (exact rfl))
 refine aw_nil 5 0 rfl rfl ?_
 refine aw_nil 5 1 rfl rfl ?_
 refine aw_nil 5 2 rfl rfl ?_
 refine aw_lpj hj [(0, .keep), (3, .keep), (4, .keep), (5, .keep), (6, .keep)] [21, 22, 5] (fun (⟨i, m1, m2, n, os, u1, u2, un, uo, a1, b1, a2, b2, a3, b3⟩ : Int × GM × GM × Nat × (List C) × GM × GM × Nat × (List C) × Nat × (List C) × Nat × (List C) × Nat × (List C)) => stOf 135 [(0, .one (.c (.sl m ac))), (3, .one (.ptr 21 0)), (4, .one (.ptr 22 0)), (5, .one (.ptr 5 0)), (6, .one (.c (vI i)))] [(21, .box [.map .str m1, .map .str m2, .own oT n os]), (22, .box [.map .str u1, .map .str u2, .own oT un uo]), (5, .box [.st (.sl a1 b1), .st (.sl a2 b2), .st (.sl a3 b3)])]) (fun (⟨i, m1, m2, n, os, u1, u2, un, uo, a1, b1, a2, b2, a3, b3⟩ : Int × GM × GM × Nat × (List C) × GM × GM × Nat × (List C) × Nat × (List C) × Nat × (List C) × Nat × (List C)) => m - i.toNat) (fun (⟨i, m1, m2, n, os, u1, u2, un, uo, a1, b1, a2, b2, a3, b3⟩ : Int × GM × GM × Nat × (List C) × GM × GM × Nat × (List C) × Nat × (List C) × Nat × (List C) × Nat × (List C)) => 0 ≤ i ∧ i ≤ m ∧ ∃ p u d, InvD i.toNat p d ∧ InvD i.toNat u d ∧ (m1 = p.m1 ∧ m2 = p.m2 ∧ n = p.n ∧ os = p.os) ∧ (u1 = u.m1 ∧ u2 = u.m2 ∧ un = u.n ∧ uo = u.os) ∧ a1 = nN d.l1 ∧ b1 = nC d.l1 ∧ a2 = nN d.l2 ∧ b2 = nC d.l2 ∧ a3 = d.n ∧ b3 = d.ro) ((0, awN, awN, 0, [], awN, awN, 0, [], 0, [], 0, [], 0, [])) (by generalize @nsN = x_nsN; generalize @nsC = x_nsC; generalize @fewA = x_fewA; generalize @awN = x_awN; generalize @hasD = x_hasD; generalize @getD = x_getD; generalize @fiC = x_fiC; generalize @nC = x_nC; generalize @nN = x_nN; generalize @sC = x_sC; cbv) ?_ (fun ⟨i, m1, m2, n, os, u1, u2, un, uo, a1, b1, a2, b2, a3, b3⟩ hI => ?_)
 ·exact ⟨by omega, by omega, _, _, _, InvD.new, InvD.new, ⟨rfl, rfl, rfl, rfl⟩, ⟨rfl, rfl, rfl, rfl⟩, rfl, rfl, rfl, rfl, rfl, rfl⟩
 obtain ⟨i1, i2, p, u, d, I, U, ⟨h1, h2, h3, h4⟩, ⟨k1, k2, k3, k4⟩, h5, h6, h7, h8, h9, h10⟩ := hI
 obtain ⟨hm40, hfk⟩ := hfw
 rcases Decidable.em (i < (m : Int)) with hi | hi
 ·obtain ⟨kd, x, y, q, kn, ks, h⟩ := hA i.toNat (by omega)
  obtain ⟨s1, s2, s3⟩ := hfk i.toNat (by omega)
  have e0 : gi (cellAt ac (i.toNat * 5)) = kd := by rw [h.a0]; rfl
  have e1 : gs (cellAt ac (i.toNat * 5 + 1)) = x := by rw [h.a1]; rfl
  have e2 : gs (cellAt ac (i.toNat * 5 + 2)) = y := by rw [h.a2]; rfl
  have e3 : gi (cellAt ac (i.toNat * 5 + 3)) = q := by rw [h.a3]; rfl
  have e4 : gn (cellAt ac (i.toNat * 5 + 4)) = kn := by rw [h.a4]; rfl
  have e5 : gc (cellAt ac (i.toNat * 5 + 4)) = ks := by rw [h.a4]; rfl
  have o0 : okK (.int .i64) (cellAt ac (i.toNat * 5)) := by rw [h.a0]; exact ⟨_, rfl⟩
  have o1 : okK .str (cellAt ac (i.toNat * 5 + 1)) := by rw [h.a1]; exact ⟨_, rfl⟩
  have o2 : okK .str (cellAt ac (i.toNat * 5 + 2)) := by rw [h.a2]; exact ⟨_, rfl⟩
  have o3 : okK (.int .i64) (cellAt ac (i.toNat * 5 + 3)) := by rw [h.a3]; exact ⟨_, rfl⟩
  have o4 : okK .sl (cellAt ac (i.toNat * 5 + 4)) := by rw [h.a4]; exact .inr ⟨_, _, rfl⟩
  rw [e1] at s1
  rw [e2] at s2
  have f1 : (i + 1).toNat = i.toNat + 1 := by omega
  obtain ⟨p', I', cD⟩ := do_step I (by omega) kd x y q kn ks s1 s2 h.kl h.kb h.ok
  obtain ⟨u', U', cE⟩ := do_step U (by omega) kd x y q kn ks s1 s2 h.kl h.kb h.ok
  generalize stepR d kd x y q kn ks = d' at I' cD U' cE
  have cD2 : (std Try.prog T).pc 31 [.root (.box [.map .str m1, .map .str m2, .own oT n os]), .v true [.sl a1 b1, .sl a2 b2, .sl a3 b3], .v true [vI kd, vS x, vS y, vI q, .sl kn ks]] (rRet d') [pBox p', .none, .none] := by
   rw [h1, h2, h3, h4, h5, h6, h7, h8, h9, h10]; exact cD
  have cE2 : (std Try.prog T).pc 31 [.root (.box [.map .str u1, .map .str u2, .own oT un uo]), .v true [.sl a1 b1, .sl a2 b2, .sl a3 b3], .v true [vI kd, vS x, vS y, vI q, .sl kn ks]] (rRet d') [pBox u', .none, .none] := by
   rw [k1, k2, k3, k4, h5, h6, h7, h8, h9, h10]; exact cE
  clear cD cE h1 h2 h3 h4 h5 h6 h7 h8 h9 h10 I U p u d k1 k2 k3 k4
  obtain ⟨p1, p2, pn, po⟩ := p'
  obtain ⟨v1, v2, vn, vo⟩ := u'
  obtain ⟨hg1, hg1'⟩ : ∃ u, u = nN d'.l1 := ⟨_, rfl⟩
  obtain ⟨hg2, hg2'⟩ : ∃ u, u = nC d'.l1 := ⟨_, rfl⟩
  obtain ⟨hg3, hg3'⟩ : ∃ u, u = nN d'.l2 := ⟨_, rfl⟩
  obtain ⟨hg4, hg4'⟩ : ∃ u, u = nC d'.l2 := ⟨_, rfl⟩
  obtain ⟨hg5, hg5'⟩ : ∃ u, u = d'.n := ⟨_, rfl⟩
  obtain ⟨hg6, hg6'⟩ : ∃ u, u = d'.ro := ⟨_, rfl⟩
  dsimp only [rRet, doRet, pBox] at cD2 cE2
  rw [← hg1', ← hg2', ← hg3', ← hg4', ← hg5', ← hg6'] at cD2 cE2
  clear hfk hA eF cF
  generalize y_nsN : @nsN = x_nsN at *
  generalize y_nsC : @nsC = x_nsC at *
  generalize y_fewA : @fewA = x_fewA at *
  generalize y_awN : @awN = x_awN at *
  generalize y_hasD : @hasD = x_hasD at *
  generalize y_getD : @getD = x_getD at *
  generalize y_fiC : @fiC = x_fiC at *
  generalize y_nC : @nC = x_nC at *
  generalize y_nN : @nN = x_nN at *
  generalize y_sC : @sC = x_sC at *
  (repeat' first | (with_reducible first | refine aw_stop (id := 10) ?_ | refine aw_stop1 (id := 10) ?_ | refine aw_stop2 (id := 10) ?_) | ((first | with_reducible refine tr_cut (fun h => ?_) (fun h => ?_) | refine aw_condj (by cbv) (fun h => ?_) (fun h => ?_)) <;> (try simp (disch := omega) only [hj, std, cmpI, cmpB, satB, Bool.not_eq_true, Bool.not_eq_false, decide_eq_true_eq, decide_eq_false_iff_not, beq_iff_eq, bne_iff_ne, bne_eq_false_iff_eq, beq_eq_false_iff_ne, ne_eq, reduceCtorEq, not_true_eq_false, not_false_eq_true, pl0, if_true, cmpS_eq, cmpS_neq, Bool.not_eq_eq_eq_not, Bool.not_true, Bool.not_false, Bool.not_eq_true', add64, sub64] at h) <;> (try (exfalso; omega))) | (with_reducible refine tr_alt (fun h => ?_) ?_ <;> (try (exfalso; omega))) | (with_reducible first | refine tr_ob ?_ ?_ | refine tr_done ?_) | (refine aw_tr hj tok ((bookDP x_nsN x_nsC x_fewA x_awN x_hasD x_getD x_fiC) p1 p2 pn po hg1 hg2 hg3 hg4 hg5 hg6) (by cbv) ?_) | (refine aw_seq fun K hK => ?_) | (refine aw_tr1 hj tok ((bookDP x_nsN x_nsC x_fewA x_awN x_hasD x_getD x_fiC) p1 p2 pn po hg1 hg2 hg3 hg4 hg5 hg6) (by cbv) ?_) | (refine aw_skip ?_) | (refine aw_block ?_) | (refine aw_exit ?_) | (refine aw_ret ⟨.inr rfl, ret_okj hj (by cbv) ?_ ?_⟩) | (refine aw_ret ?_) | (with_reducible first | refine th_n ?_ | refine th_r ?_ | refine th_x ?_ | refine blk_n ?_ | refine blk_r ?_ | refine blk_x ?_ | refine blk_y rfl ?_) | (refine ⟨.inr rfl, ret_okj hj (by cbv) ?_ ?_⟩) | (refine ⟨.inl rfl, ret_okj hj (by cbv) ?_ ?_⟩) | (with_reducible first | refine ⟨(_, _, _), by cbv, ?_, ?_⟩ | refine ⟨_, by cbv, ?_, ?_⟩) | (with_reducible apply_assumption -symm -exfalso only [*]))
  all_goals ((try subst y_nsN); (try subst y_nsC); (try subst y_fewA); (try subst y_awN); (try subst y_hasD); (try subst y_getD); (try subst y_fiC); (try subst y_nC); (try subst y_nN); (try subst y_sC))
  all_goals (try (repeat' first | with_reducible exact obl0 | (with_reducible refine obl1 ?_ ?_)))
  all_goals (try first | with_reducible exact True.intro | ((first | refine ob_le hj ?_ | refine ob_lei hj ?_ | refine ob_inb hj ?_ | refine ob_pos hj ?_ | refine ob_ne0 hj ?_ | refine ob_eqb hj ?_); (first | rfl | first | omega | (simp only [hj, std]; split <;> omega) | (simp (disch := omega) only [hj, std, cmpI, cmpB, satB, add64, sub64, ite0, pl0, pl2, pl3, sb0, if_true, if_false, eq_self] <;> omega) | (simp (disch := omega) [hj, std, cmpI, cmpB, satB, add64, sub64, ite0, pl0, pl2, pl3, sb0, if_true, if_false, eq_self] <;> omega))))
  refine stop_go ?_; refine aw_joinj hj [(0, .keep), (3, .keep), (4, .keep), (5, .keep), (6, .keep), (7, .keep)] [21, 22, 5, 7] (fun (z : Nat) => stOf 135 [(0, .one (.c (.sl m ac))), (3, .one (.ptr 21 0)), (4, .one (.ptr 22 0)), (5, .one (.ptr 5 0)), (6, .one (.c (vI i))), (7, .one (.ptr 7 0))] [(21, .box [.map .str p1, .map .str p2, .own oT pn po]), (22, .box [.map .str u1, .map .str u2, .own oT un uo]), (5, .box [.st (.sl a1 b1), .st (.sl a2 b2), .st (.sl a3 b3)]), (7, .box [.st (.sl hg1 hg2), .st (.sl hg3 hg4), .st (.sl z hg6)])]) (fun (z : Nat) => hg5 = z) ?_ (fun z hI => ?_)
  ·generalize y_nsN : @nsN = x_nsN at *
   generalize y_nsC : @nsC = x_nsC at *
   generalize y_fewA : @fewA = x_fewA at *
   generalize y_awN : @awN = x_awN at *
   generalize y_hasD : @hasD = x_hasD at *
   generalize y_getD : @getD = x_getD at *
   generalize y_fiC : @fiC = x_fiC at *
   generalize y_nC : @nC = x_nC at *
   generalize y_nN : @nN = x_nN at *
   generalize y_sC : @sC = x_sC at *
   (repeat' first | ((first | with_reducible refine tr_cut (fun h => ?_) (fun h => ?_) | refine aw_condj (by cbv) (fun h => ?_) (fun h => ?_)) <;> (try simp (disch := omega) only [hj, std, cmpI, cmpB, satB, Bool.not_eq_true, Bool.not_eq_false, decide_eq_true_eq, decide_eq_false_iff_not, beq_iff_eq, bne_iff_ne, bne_eq_false_iff_eq, beq_eq_false_iff_ne, ne_eq, reduceCtorEq, not_true_eq_false, not_false_eq_true, pl0, if_true, cmpS_eq, cmpS_neq, Bool.not_eq_eq_eq_not, Bool.not_true, Bool.not_false, Bool.not_eq_true', add64, sub64] at h) <;> (try (exfalso; omega))) | (with_reducible refine tr_alt (fun h => ?_) ?_ <;> (try (exfalso; omega))) | (with_reducible first | refine tr_ob ?_ ?_ | refine tr_done ?_) | (refine aw_dc1 (id := 9) hj tok hm ((bookDP x_nsN x_nsC x_fewA x_awN x_hasD x_getD x_fiC) p1 p2 pn po hg1 hg2 hg3 hg4 hg5 hg6) [0, 2, 3, 4, 5] (.alt 1 (.alt 6 (.take 7 (.take 8 (.take 9 (.last 10 (.last 11 (.take 12 .done)))))) (.last 10 (.last 6 (.take 7 (.take 8 (.take 9 (.last 11 (.take 12 .done)))))))) (.last 10 (.last 1 (.last 6 (.take 7 (.take 8 (.take 9 (.last 11 (.take 12 .done))))))))) (by kernel_rfl) (by cbv) ?_) | (refine aw_dc (id := 9) hj tok hm ((bookDP x_nsN x_nsC x_fewA x_awN x_hasD x_getD x_fiC) p1 p2 pn po hg1 hg2 hg3 hg4 hg5 hg6) [0, 2, 3, 4, 5] (.alt 1 (.alt 6 (.take 7 (.take 8 (.take 9 (.last 10 (.last 11 (.take 12 .done)))))) (.last 10 (.last 6 (.take 7 (.take 8 (.take 9 (.last 11 (.take 12 .done)))))))) (.last 10 (.last 1 (.last 6 (.take 7 (.take 8 (.take 9 (.last 11 (.take 12 .done))))))))) (by kernel_rfl) (by cbv) ?_) | (refine aw_tr hj tok ((bookDP x_nsN x_nsC x_fewA x_awN x_hasD x_getD x_fiC) p1 p2 pn po hg1 hg2 hg3 hg4 hg5 hg6) (by cbv) ?_) | (refine aw_seq fun K hK => ?_) | (refine aw_tr1 hj tok ((bookDP x_nsN x_nsC x_fewA x_awN x_hasD x_getD x_fiC) p1 p2 pn po hg1 hg2 hg3 hg4 hg5 hg6) (by cbv) ?_) | (refine aw_skip ?_) | (refine aw_block ?_) | (refine aw_exit ?_) | (refine aw_ret ⟨.inr rfl, ret_okj hj (by cbv) ?_ ?_⟩) | (refine aw_ret ?_) | (with_reducible first | refine th_n ?_ | refine th_r ?_ | refine th_x ?_ | refine blk_n ?_ | refine blk_r ?_ | refine blk_x ?_ | refine blk_y rfl ?_) | (refine ⟨.inr rfl, ret_okj hj (by cbv) ?_ ?_⟩) | (refine ⟨.inl rfl, ret_okj hj (by cbv) ?_ ?_⟩) | (with_reducible first | refine ⟨(_, _, _), by cbv, ?_, ?_⟩ | refine ⟨_, by cbv, ?_, ?_⟩) | (with_reducible apply_assumption -symm -exfalso only [*]))
   all_goals ((try subst y_nsN); (try subst y_nsC); (try subst y_fewA); (try subst y_awN); (try subst y_hasD); (try subst y_getD); (try subst y_fiC); (try subst y_nC); (try subst y_nN); (try subst y_sC))
   all_goals (try (repeat' first | with_reducible exact obl0 | (with_reducible refine obl1 ?_ ?_)))
   all_goals (try first | with_reducible exact True.intro | ((first | refine ob_le hj ?_ | refine ob_lei hj ?_ | refine ob_inb hj ?_ | refine ob_pos hj ?_ | refine ob_ne0 hj ?_ | refine ob_eqb hj ?_); (first | rfl | first | omega | (simp only [hj, std]; split <;> omega) | (simp (disch := omega) only [hj, std, cmpI, cmpB, satB, add64, sub64, ite0, pl0, pl2, pl3, sb0, if_true, if_false, eq_self, hm5] <;> omega) | (simp (disch := omega) [hj, std, cmpI, cmpB, satB, add64, sub64, ite0, pl0, pl2, pl3, sb0, if_true, if_false, eq_self, hm5] <;> omega))) | ((refine ob_pc hj ?_; simp only [hj, std, ite0, e0, e1, e2, e3, e4, e5]; exact cD2)) | ((refine ob_ok hj ?_; simp only [hj, std, ite0]; first | exact o0 | exact o1 | exact o2 | exact o3 | exact o4)) | (exact rfl))
  subst hI
  generalize y_nsN : @nsN = x_nsN at *
  generalize y_nsC : @nsC = x_nsC at *
  generalize y_fewA : @fewA = x_fewA at *
  generalize y_awN : @awN = x_awN at *
  generalize y_hasD : @hasD = x_hasD at *
  generalize y_getD : @getD = x_getD at *
  generalize y_fiC : @fiC = x_fiC at *
  generalize y_nC : @nC = x_nC at *
  generalize y_nN : @nN = x_nN at *
  generalize y_sC : @sC = x_sC at *
  (repeat' first | (with_reducible first | refine aw_stop (id := 11) ?_ | refine aw_stop1 (id := 11) ?_ | refine aw_stop2 (id := 11) ?_) | ((first | with_reducible refine tr_cut (fun h => ?_) (fun h => ?_) | refine aw_condj (by cbv) (fun h => ?_) (fun h => ?_)) <;> (try simp (disch := omega) only [hj, std, cmpI, cmpB, satB, Bool.not_eq_true, Bool.not_eq_false, decide_eq_true_eq, decide_eq_false_iff_not, beq_iff_eq, bne_iff_ne, bne_eq_false_iff_eq, beq_eq_false_iff_ne, ne_eq, reduceCtorEq, not_true_eq_false, not_false_eq_true, pl0, if_true, cmpS_eq, cmpS_neq, Bool.not_eq_eq_eq_not, Bool.not_true, Bool.not_false, Bool.not_eq_true', add64, sub64] at h) <;> (try (exfalso; omega))) | (with_reducible refine tr_alt (fun h => ?_) ?_ <;> (try (exfalso; omega))) | (with_reducible first | refine tr_ob ?_ ?_ | refine tr_done ?_) | (refine aw_tr hj tok ((bookDP x_nsN x_nsC x_fewA x_awN x_hasD x_getD x_fiC) v1 v2 vn vo hg1 hg2 hg3 hg4 hg5 hg6) (by cbv) ?_) | (refine aw_seq fun K hK => ?_) | (refine aw_tr1 hj tok ((bookDP x_nsN x_nsC x_fewA x_awN x_hasD x_getD x_fiC) v1 v2 vn vo hg1 hg2 hg3 hg4 hg5 hg6) (by cbv) ?_) | (refine aw_skip ?_) | (refine aw_block ?_) | (refine aw_exit ?_) | (refine aw_ret ⟨.inr rfl, ret_okj hj (by cbv) ?_ ?_⟩) | (refine aw_ret ?_) | (with_reducible first | refine th_n ?_ | refine th_r ?_ | refine th_x ?_ | refine blk_n ?_ | refine blk_r ?_ | refine blk_x ?_ | refine blk_y rfl ?_) | (refine ⟨.inr rfl, ret_okj hj (by cbv) ?_ ?_⟩) | (refine ⟨.inl rfl, ret_okj hj (by cbv) ?_ ?_⟩) | (with_reducible first | refine ⟨(_, _, _), by cbv, ?_, ?_⟩ | refine ⟨_, by cbv, ?_, ?_⟩) | (with_reducible apply_assumption -symm -exfalso only [*]))
  all_goals ((try subst y_nsN); (try subst y_nsC); (try subst y_fewA); (try subst y_awN); (try subst y_hasD); (try subst y_getD); (try subst y_fiC); (try subst y_nC); (try subst y_nN); (try subst y_sC))
  all_goals (try (repeat' first | with_reducible exact obl0 | (with_reducible refine obl1 ?_ ?_)))
  all_goals (try first | with_reducible exact True.intro | ((first | refine ob_le hj ?_ | refine ob_lei hj ?_ | refine ob_inb hj ?_ | refine ob_pos hj ?_ | refine ob_ne0 hj ?_ | refine ob_eqb hj ?_); (first | rfl | first | omega | (simp only [hj, std]; split <;> omega) | (simp (disch := omega) only [hj, std, cmpI, cmpB, satB, add64, sub64, ite0, pl0, pl2, pl3, sb0, if_true, if_false, eq_self] <;> omega) | (simp (disch := omega) [hj, std, cmpI, cmpB, satB, add64, sub64, ite0, pl0, pl2, pl3, sb0, if_true, if_false, eq_self] <;> omega))))
  refine stop_go ?_; refine aw_joinj hj [(0, .keep), (3, .keep), (4, .keep), (5, .keep), (6, .keep), (7, .keep)] [21, 22, 5, 7] (fun (z : Nat) => stOf 135 [(0, .one (.c (.sl m ac))), (3, .one (.ptr 21 0)), (4, .one (.ptr 22 0)), (5, .one (.ptr 5 0)), (6, .one (.c (vI i))), (7, .one (.ptr 7 0))] [(21, .box [.map .str p1, .map .str p2, .own oT pn po]), (22, .box [.map .str v1, .map .str v2, .own oT vn vo]), (5, .box [.st (.sl a1 b1), .st (.sl a2 b2), .st (.sl a3 b3)]), (7, .box [.st (.sl hg1 hg2), .st (.sl hg3 hg4), .st (.sl z hg6)])]) (fun (z : Nat) => hg5 = z) ?_ (fun z hI => ?_)
  ·generalize y_nsN : @nsN = x_nsN at *
   generalize y_nsC : @nsC = x_nsC at *
   generalize y_fewA : @fewA = x_fewA at *
   generalize y_awN : @awN = x_awN at *
   generalize y_hasD : @hasD = x_hasD at *
   generalize y_getD : @getD = x_getD at *
   generalize y_fiC : @fiC = x_fiC at *
   generalize y_nC : @nC = x_nC at *
   generalize y_nN : @nN = x_nN at *
   generalize y_sC : @sC = x_sC at *
   (repeat' first | ((first | with_reducible refine tr_cut (fun h => ?_) (fun h => ?_) | refine aw_condj (by cbv) (fun h => ?_) (fun h => ?_)) <;> (try simp (disch := omega) only [hj, std, cmpI, cmpB, satB, Bool.not_eq_true, Bool.not_eq_false, decide_eq_true_eq, decide_eq_false_iff_not, beq_iff_eq, bne_iff_ne, bne_eq_false_iff_eq, beq_eq_false_iff_ne, ne_eq, reduceCtorEq, not_true_eq_false, not_false_eq_true, pl0, if_true, cmpS_eq, cmpS_neq, Bool.not_eq_eq_eq_not, Bool.not_true, Bool.not_false, Bool.not_eq_true', add64, sub64] at h) <;> (try (exfalso; omega))) | (with_reducible refine tr_alt (fun h => ?_) ?_ <;> (try (exfalso; omega))) | (with_reducible first | refine tr_ob ?_ ?_ | refine tr_done ?_) | (refine aw_dc1 (id := 10) hj tok hm ((bookDP x_nsN x_nsC x_fewA x_awN x_hasD x_getD x_fiC) v1 v2 vn vo hg1 hg2 hg3 hg4 hg5 hg6) [0, 2, 3, 4, 5] (.last 1 (.last 6 .done)) (by kernel_rfl) (by cbv) ?_) | (refine aw_dc (id := 10) hj tok hm ((bookDP x_nsN x_nsC x_fewA x_awN x_hasD x_getD x_fiC) v1 v2 vn vo hg1 hg2 hg3 hg4 hg5 hg6) [0, 2, 3, 4, 5] (.last 1 (.last 6 .done)) (by kernel_rfl) (by cbv) ?_) | (refine aw_tr hj tok ((bookDP x_nsN x_nsC x_fewA x_awN x_hasD x_getD x_fiC) v1 v2 vn vo hg1 hg2 hg3 hg4 hg5 hg6) (by cbv) ?_) | (refine aw_seq fun K hK => ?_) | (refine aw_tr1 hj tok ((bookDP x_nsN x_nsC x_fewA x_awN x_hasD x_getD x_fiC) v1 v2 vn vo hg1 hg2 hg3 hg4 hg5 hg6) (by cbv) ?_) | (refine aw_skip ?_) | (refine aw_block ?_) | (refine aw_exit ?_) | (refine aw_ret ⟨.inr rfl, ret_okj hj (by cbv) ?_ ?_⟩) | (refine aw_ret ?_) | (with_reducible first | refine th_n ?_ | refine th_r ?_ | refine th_x ?_ | refine blk_n ?_ | refine blk_r ?_ | refine blk_x ?_ | refine blk_y rfl ?_) | (refine ⟨.inr rfl, ret_okj hj (by cbv) ?_ ?_⟩) | (refine ⟨.inl rfl, ret_okj hj (by cbv) ?_ ?_⟩) | (with_reducible first | refine ⟨(_, _, _), by cbv, ?_, ?_⟩ | refine ⟨_, by cbv, ?_, ?_⟩) | (with_reducible apply_assumption -symm -exfalso only [*]))
   all_goals ((try subst y_nsN); (try subst y_nsC); (try subst y_fewA); (try subst y_awN); (try subst y_hasD); (try subst y_getD); (try subst y_fiC); (try subst y_nC); (try subst y_nN); (try subst y_sC))
   all_goals (try (repeat' first | with_reducible exact obl0 | (with_reducible refine obl1 ?_ ?_)))
   all_goals (try first | with_reducible exact True.intro | ((first | refine ob_le hj ?_ | refine ob_lei hj ?_ | refine ob_inb hj ?_ | refine ob_pos hj ?_ | refine ob_ne0 hj ?_ | refine ob_eqb hj ?_); (first | rfl | first | omega | (simp only [hj, std]; split <;> omega) | (simp (disch := omega) only [hj, std, cmpI, cmpB, satB, add64, sub64, ite0, pl0, pl2, pl3, sb0, if_true, if_false, eq_self, hm5] <;> omega) | (simp (disch := omega) [hj, std, cmpI, cmpB, satB, add64, sub64, ite0, pl0, pl2, pl3, sb0, if_true, if_false, eq_self, hm5] <;> omega))) | ((refine ob_pc hj ?_; simp only [hj, std, ite0, e0, e1, e2, e3, e4, e5]; exact cE2)) | ((refine ob_ok hj ?_; simp only [hj, std, ite0]; first | exact o0 | exact o1 | exact o2 | exact o3 | exact o4)) | (exact rfl))
  subst hI
  clear cD2 cE2 e0 e1 e2 e3 e4 e5 o0 o1 o2 o3 o4
  generalize y_nsN : @nsN = x_nsN at *
  generalize y_nsC : @nsC = x_nsC at *
  generalize y_fewA : @fewA = x_fewA at *
  generalize y_awN : @awN = x_awN at *
  generalize y_hasD : @hasD = x_hasD at *
  generalize y_getD : @getD = x_getD at *
  generalize y_nC : @nC = x_nC at *
  generalize y_nN : @nN = x_nN at *
  generalize y_fiC : @fiC = x_fiC at *
  generalize y_sC : @sC = x_sC at *
  (repeat' first | (with_reducible refine ⟨(_, _, _, _, _, _, _, _, _, _, _, _, _, _, _), by cbv, ?_, ?_⟩) | ((first | with_reducible refine tr_cut (fun h => ?_) (fun h => ?_) | refine aw_condj (by cbv) (fun h => ?_) (fun h => ?_)) <;> (try simp (disch := omega) only [hj, std, cmpI, cmpB, satB, Bool.not_eq_true, Bool.not_eq_false, decide_eq_true_eq, decide_eq_false_iff_not, beq_iff_eq, bne_iff_ne, bne_eq_false_iff_eq, beq_eq_false_iff_ne, ne_eq, reduceCtorEq, not_true_eq_false, not_false_eq_true, pl0, if_true, cmpS_eq, cmpS_neq, Bool.not_eq_eq_eq_not, Bool.not_true, Bool.not_false, Bool.not_eq_true', add64, sub64] at h) <;> (try (exfalso; omega))) | (with_reducible refine tr_alt (fun h => ?_) ?_ <;> (try (exfalso; omega))) | (with_reducible first | refine tr_ob ?_ ?_ | refine tr_done ?_) | (refine aw_tr hj tok ((bookDW x_nsN x_nsC x_fewA x_awN x_hasD x_getD) awN) (by cbv) ?_) | (refine aw_seq fun K hK => ?_) | (refine aw_tr1 hj tok ((bookDW x_nsN x_nsC x_fewA x_awN x_hasD x_getD) awN) (by cbv) ?_) | (refine aw_skip ?_) | (refine aw_block ?_) | (refine aw_exit ?_) | (refine aw_ret ⟨.inr rfl, ret_okj hj (by cbv) ?_ ?_⟩) | (refine aw_ret ?_) | (with_reducible first | refine th_n ?_ | refine th_r ?_ | refine th_x ?_ | refine blk_n ?_ | refine blk_r ?_ | refine blk_x ?_ | refine blk_y rfl ?_) | (refine ⟨.inr rfl, ret_okj hj (by cbv) ?_ ?_⟩) | (refine ⟨.inl rfl, ret_okj hj (by cbv) ?_ ?_⟩) | (with_reducible first | refine ⟨(_, _, _), by cbv, ?_, ?_⟩ | refine ⟨_, by cbv, ?_, ?_⟩) | (with_reducible apply_assumption -symm -exfalso only [*]))
  all_goals ((try subst y_nsN); (try subst y_nsC); (try subst y_fewA); (try subst y_awN); (try subst y_hasD); (try subst y_getD); (try subst y_nC); (try subst y_nN); (try subst y_fiC); (try subst y_sC))
  all_goals (try (repeat' first | with_reducible exact obl0 | (with_reducible refine obl1 ?_ ?_)))
  all_goals (try first | with_reducible exact True.intro | ((first | refine ob_le hj ?_ | refine ob_lei hj ?_ | refine ob_inb hj ?_ | refine ob_pos hj ?_ | refine ob_ne0 hj ?_ | refine ob_eqb hj ?_); (first | rfl | first | omega | (simp only [hj, std]; split <;> omega) | (simp (disch := omega) only [hj, std, cmpI, cmpB, satB, add64, sub64, ite0, pl0, pl2, pl3, sb0, if_true, if_false, eq_self] <;> omega) | (simp (disch := omega) [hj, std, cmpI, cmpB, satB, add64, sub64, ite0, pl0, pl2, pl3, sb0, if_true, if_false, eq_self] <;> omega))) | ((simp (disch := omega) only [hj, std, add64]; first | omega | (rw [f1]; exact ⟨by omega, by omega, ⟨p1, p2, pn, po⟩, ⟨v1, v2, vn, vo⟩, d', I', U', ⟨rfl, rfl, rfl, rfl⟩, ⟨rfl, rfl, rfl, rfl⟩, hg1', hg2', hg3', hg4', hg5', hg6'⟩))))
 ·have hil : i.toNat = m := by omega
  have bb1 := I.b1
  have bb2 := I.b2
  have hdn := I.hn
  have hun := U.hn
  have R1 := I.r1
  have RC1 := I.cr p.n (Nat.le_refl _)
  rw [← hdn, I.al] at RC1
  rw [hdn] at RC1
  have U2 := U.r2
  have hpo := I.oo
  have huo := U.oo
  rw [← h1] at R1
  rw [← h2, ← h3, ← h4] at RC1
  rw [← k2] at U2
  rw [← h3] at hdn hpo
  rw [← h4] at hpo
  rw [← k3] at hun huo
  rw [← k4] at huo
  have P2 : MI m2 := by rw [h2]; exact I.r2.mi
  have hn40 : n ≤ 40 := by omega
  have hu40 : un ≤ 40 := by omega
  obtain ⟨n1, n2⟩ := R1.names
  obtain ⟨n3, n4⟩ := RC1.names
  obtain ⟨n5, n6⟩ := U2.names
  have hl1 := R1.len
  have hl2 := RC1.len
  have hl3 := U2.len
  have hnn := nN_eq d.l2
  have hcl := nC_len d.l2
  have hcat := nC_at d.l2
  clear hA eF cF hfk I U h1 h2 h3 h4 h9 h10 h5 h6 k1 k2 k3 k4
  obtain ⟨c1, hc1⟩ : ∃ c, c = crM m2 os n := ⟨_, rfl⟩
  rw [← hc1] at RC1 n3 n4 hl2
  have cN1 := c_NamesD m1 m2 n os (by omega)
  have cN2 := c_NamesD c1 c1 0 [] (by omega)
  have cN3 := c_NamesD u2 u2 0 [] (by omega)
  have cC1 : ∀ kc, kc = List.replicate n (vB true) → (std Try.prog T).pc 36 [.root (dBox m1 m2 n os), .v false [.sl n kc]] ⟨true, []⟩ [dBox c1 c1 0 [], .none] := fun kc hkc => ⟨enters Try.func36 (by kernel_rfl) (by kernel_rfl), by
   have hat : ∀ q, q < n → cellAt kc q = vB true := fun q hq => by rw [hkc]; unfold cellAt; rw [List.getD_eq_getElem?_getD, List.getElem?_replicate, if_pos hq]; rfl
   rw [hc1]
   exact pc_CrashD m1 m2 n n n os kc P2 (by omega) hpo (by omega) (by rw [hkc]; simp) (fun q hq => by rw [hat q hq]; exact ⟨_, rfl⟩) (Nat.le_refl _) (fun q hq => ⟨hq, by rw [hat q hq]; rfl⟩) (.inl rfl)⟩
  have cC2 : (std Try.prog T).pc 36 [.root (dBox u1 u2 un uo), .v false [.nil]] ⟨true, []⟩ [dBox u2 u2 0 [], .none] := ⟨enters Try.func36 (by kernel_rfl) (by kernel_rfl), by
   refine pc_le (pc_CrashD u1 u2 un 0 0 uo [] U2.mi (by omega) huo (by omega) rfl (fun q hq => absurd hq (by omega)) (by omega) (fun q hq => absurd hq (by omega)) (.inr fun h => absurd h.1 (by omega))) ?_
   exact .cons .refl (.cons (.v (LeCs.cons .nil (LeCs.refl []))) .nil)⟩
  generalize y_nsN : @nsN = x_nsN at *
  generalize y_nsC : @nsC = x_nsC at *
  generalize y_fewA : @fewA = x_fewA at *
  generalize y_awN : @awN = x_awN at *
  generalize y_hasD : @hasD = x_hasD at *
  generalize y_getD : @getD = x_getD at *
  generalize y_nC : @nC = x_nC at *
  generalize y_nN : @nN = x_nN at *
  generalize y_fiC : @fiC = x_fiC at *
  generalize y_sC : @sC = x_sC at *
  (repeat' first | ((first | with_reducible refine tr_cut (fun h => ?_) (fun h => ?_) | refine aw_condj (by cbv) (fun h => ?_) (fun h => ?_)) <;> (try simp (disch := omega) only [hj, std, cmpI, cmpB, satB, Bool.not_eq_true, Bool.not_eq_false, decide_eq_true_eq, decide_eq_false_iff_not, beq_iff_eq, bne_iff_ne, bne_eq_false_iff_eq, beq_eq_false_iff_ne, ne_eq, reduceCtorEq, not_true_eq_false, not_false_eq_true, pl0, if_true, cmpS_eq, cmpS_neq, Bool.not_eq_eq_eq_not, Bool.not_true, Bool.not_false, Bool.not_eq_true', add64, sub64] at h) <;> (try (exfalso; omega))) | (with_reducible refine tr_alt (fun h => ?_) ?_ <;> (try (exfalso; omega))) | (with_reducible first | refine tr_ob ?_ ?_ | refine tr_done ?_) | (refine aw_tr hj tok ((bookDW x_nsN x_nsC x_fewA x_awN x_hasD x_getD) awN) (by cbv) ?_) | (refine aw_seq fun K hK => ?_) | (refine aw_tr1 hj tok ((bookDW x_nsN x_nsC x_fewA x_awN x_hasD x_getD) awN) (by cbv) ?_) | (refine aw_skip ?_) | (refine aw_block ?_) | (refine aw_exit ?_) | (refine aw_ret ⟨.inr rfl, ret_okj hj (by cbv) ?_ ?_⟩) | (refine aw_ret ?_) | (with_reducible first | refine th_n ?_ | refine th_r ?_ | refine th_x ?_ | refine blk_n ?_ | refine blk_r ?_ | refine blk_x ?_ | refine blk_y rfl ?_) | (refine ⟨.inr rfl, ret_okj hj (by cbv) ?_ ?_⟩) | (refine ⟨.inl rfl, ret_okj hj (by cbv) ?_ ?_⟩) | (with_reducible first | refine ⟨(_, _, _), by cbv, ?_, ?_⟩ | refine ⟨_, by cbv, ?_, ?_⟩) | (with_reducible apply_assumption -symm -exfalso only [*]))
  all_goals ((try subst y_nsN); (try subst y_nsC); (try subst y_fewA); (try subst y_awN); (try subst y_hasD); (try subst y_getD); (try subst y_nC); (try subst y_nN); (try subst y_fiC); (try subst y_sC))
  refine aw_lpj hj [(3, .keep), (4, .keep), (5, .keep), (9, .own kbT), (10, .keep)] [21, 22, 5] (fun (⟨k, kn, kc⟩ : Int × Nat × (List C)) => stOf 135 [(3, .one (.ptr 21 0)), (4, .one (.ptr 22 0)), (5, .one (.ptr 5 0)), (9, .one (.view 9 0)), (10, .one (.c (vI k)))] [(9, .loose [.own kbT kn kc]), (21, .box [.map .str m1, .map .str m2, .own oT n os]), (22, .box [.map .str u1, .map .str u2, .own oT un uo]), (5, .box [.st (.sl a1 b1), .st (.sl a2 b2), .st (.sl a3 b3)])]) (fun (⟨k, kn, kc⟩ : Int × Nat × (List C)) => n - k.toNat) (fun (⟨k, kn, kc⟩ : Int × Nat × (List C)) => 0 ≤ k ∧ k ≤ n ∧ kn = k.toNat ∧ kc = List.replicate k.toNat (vB true)) ((0, 0, [])) (by generalize @nsN = x_nsN; generalize @nsC = x_nsC; generalize @fewA = x_fewA; generalize @awN = x_awN; generalize @hasD = x_hasD; generalize @getD = x_getD; generalize @fiC = x_fiC; generalize @nC = x_nC; generalize @nN = x_nN; generalize @sC = x_sC; cbv) ?_ (fun ⟨k, kn, kc⟩ hI => ?_)
  ·exact ⟨by omega, by omega, rfl, rfl⟩
  obtain ⟨q1, q2, q3, q4⟩ := hI
  rcases Decidable.em (k < (n : Int)) with hk | hk
  ·have f1 : (k + 1).toNat = k.toNat + 1 := by omega
   have f2 : kc ++ [vB true] = List.replicate (k.toNat + 1) (vB true) := by rw [q4, List.replicate_succ']
   generalize y_nsN : @nsN = x_nsN at *
   generalize y_nsC : @nsC = x_nsC at *
   generalize y_fewA : @fewA = x_fewA at *
   generalize y_awN : @awN = x_awN at *
   generalize y_hasD : @hasD = x_hasD at *
   generalize y_getD : @getD = x_getD at *
   generalize y_nC : @nC = x_nC at *
   generalize y_nN : @nN = x_nN at *
   generalize y_fiC : @fiC = x_fiC at *
   generalize y_sC : @sC = x_sC at *
   (repeat' first | ((first | with_reducible refine tr_cut (fun h => ?_) (fun h => ?_) | refine aw_condj (by cbv) (fun h => ?_) (fun h => ?_)) <;> (try simp (disch := omega) only [hj, std, cmpI, cmpB, satB, Bool.not_eq_true, Bool.not_eq_false, decide_eq_true_eq, decide_eq_false_iff_not, beq_iff_eq, bne_iff_ne, bne_eq_false_iff_eq, beq_eq_false_iff_ne, ne_eq, reduceCtorEq, not_true_eq_false, not_false_eq_true, pl0, if_true, cmpS_eq, cmpS_neq, Bool.not_eq_eq_eq_not, Bool.not_true, Bool.not_false, Bool.not_eq_true', Int.ofNat_eq_natCast, add64, sub64] at h) <;> (try (exfalso; omega))) | (with_reducible refine tr_alt (fun h => ?_) ?_ <;> (try (exfalso; omega))) | (with_reducible first | refine tr_ob ?_ ?_ | refine tr_done ?_) | (refine aw_tr hj tok ((bookDW x_nsN x_nsC x_fewA x_awN x_hasD x_getD) awN) (by cbv) ?_) | (refine aw_seq fun K hK => ?_) | (refine aw_tr1 hj tok ((bookDW x_nsN x_nsC x_fewA x_awN x_hasD x_getD) awN) (by cbv) ?_) | (refine aw_skip ?_) | (refine aw_block ?_) | (refine aw_exit ?_) | (refine aw_ret ⟨.inr rfl, ret_okj hj (by cbv) ?_ ?_⟩) | (refine aw_ret ?_) | (with_reducible first | refine th_n ?_ | refine th_r ?_ | refine th_x ?_ | refine blk_n ?_ | refine blk_r ?_ | refine blk_x ?_ | refine blk_y rfl ?_) | (refine ⟨.inr rfl, ret_okj hj (by cbv) ?_ ?_⟩) | (refine ⟨.inl rfl, ret_okj hj (by cbv) ?_ ?_⟩) | (with_reducible first | refine ⟨(_, _, _), by cbv, ?_, ?_⟩ | refine ⟨_, by cbv, ?_, ?_⟩) | (with_reducible apply_assumption -symm -exfalso only [*]))
   all_goals ((try subst y_nsN); (try subst y_nsC); (try subst y_fewA); (try subst y_awN); (try subst y_hasD); (try subst y_getD); (try subst y_nC); (try subst y_nN); (try subst y_fiC); (try subst y_sC))
   all_goals (try (repeat' first | with_reducible exact obl0 | (with_reducible refine obl1 ?_ ?_)))
   all_goals (try first | with_reducible exact True.intro | ((first | refine ob_pc hj ?_ | refine ob_pcn hj ?_); (try rw [hj]); first | exact c_PendD _ _ _ _) | ((first | refine ob_le hj ?_ | refine ob_lei hj ?_ | refine ob_inb hj ?_ | refine ob_pos hj ?_ | refine ob_ne0 hj ?_ | refine ob_eqb hj ?_); (first | rfl | first | omega | (simp only [hj, std]; split <;> omega) | (simp (disch := omega) only [hj, std, cmpI, cmpB, satB, add64, sub64, ite0, pl0, pl2, pl3, sb0, if_true, if_false, eq_self] <;> omega) | (simp (disch := omega) [hj, std, cmpI, cmpB, satB, add64, sub64, ite0, pl0, pl2, pl3, sb0, if_true, if_false, eq_self] <;> omega))) | ((simp (disch := omega) only [hj, std, add64]; first | omega | (rw [f1]; exact ⟨by omega, by omega, by split <;> omega, f2⟩))))
  ·have e : k.toNat = n := by omega
   rw [e] at q3 q4
   subst q3
   have cC1 := cC1 kc q4
   generalize y_nsN : @nsN = x_nsN at *
   generalize y_nsC : @nsC = x_nsC at *
   generalize y_fewA : @fewA = x_fewA at *
   generalize y_awN : @awN = x_awN at *
   generalize y_hasD : @hasD = x_hasD at *
   generalize y_getD : @getD = x_getD at *
   generalize y_nC : @nC = x_nC at *
   generalize y_nN : @nN = x_nN at *
   generalize y_fiC : @fiC = x_fiC at *
   generalize y_sC : @sC = x_sC at *
   (repeat' first | (with_reducible first | refine aw_stop (id := 23) ?_ | refine aw_stop1 (id := 23) ?_ | refine aw_stop2 (id := 23) ?_) | ((first | with_reducible refine tr_cut (fun h => ?_) (fun h => ?_) | refine aw_condj (by cbv) (fun h => ?_) (fun h => ?_)) <;> (try simp (disch := omega) only [hj, std, cmpI, cmpB, satB, Bool.not_eq_true, Bool.not_eq_false, decide_eq_true_eq, decide_eq_false_iff_not, beq_iff_eq, bne_iff_ne, bne_eq_false_iff_eq, beq_eq_false_iff_ne, ne_eq, reduceCtorEq, not_true_eq_false, not_false_eq_true, pl0, if_true, cmpS_eq, cmpS_neq, Bool.not_eq_eq_eq_not, Bool.not_true, Bool.not_false, Bool.not_eq_true', Int.ofNat_eq_natCast, add64, sub64] at h) <;> (try (exfalso; omega))) | (with_reducible refine tr_alt (fun h => ?_) ?_ <;> (try (exfalso; omega))) | (with_reducible first | refine tr_ob ?_ ?_ | refine tr_done ?_) | (refine aw_tr hj tok ((bookDW x_nsN x_nsC x_fewA x_awN x_hasD x_getD) c1) (by cbv) ?_) | (refine aw_seq fun K hK => ?_) | (refine aw_tr1 hj tok ((bookDW x_nsN x_nsC x_fewA x_awN x_hasD x_getD) c1) (by cbv) ?_) | (refine aw_skip ?_) | (refine aw_block ?_) | (refine aw_exit ?_) | (refine aw_ret ⟨.inr rfl, ret_okj hj (by cbv) ?_ ?_⟩) | (refine aw_ret ?_) | (with_reducible first | refine th_n ?_ | refine th_r ?_ | refine th_x ?_ | refine blk_n ?_ | refine blk_r ?_ | refine blk_x ?_ | refine blk_y rfl ?_) | (refine ⟨.inr rfl, ret_okj hj (by cbv) ?_ ?_⟩) | (refine ⟨.inl rfl, ret_okj hj (by cbv) ?_ ?_⟩) | (with_reducible first | refine ⟨(_, _, _), by cbv, ?_, ?_⟩ | refine ⟨_, by cbv, ?_, ?_⟩) | (with_reducible apply_assumption -symm -exfalso only [*]))
   all_goals ((try subst y_nsN); (try subst y_nsC); (try subst y_fewA); (try subst y_awN); (try subst y_hasD); (try subst y_getD); (try subst y_nC); (try subst y_nN); (try subst y_fiC); (try subst y_sC))
   all_goals (try (repeat' first | with_reducible exact obl0 | (with_reducible refine obl1 ?_ ?_)))
   all_goals (try first | with_reducible exact True.intro | ((first | refine ob_pc hj ?_ | refine ob_pcn hj ?_); (try rw [hj]); first | exact c_PendD _ _ _ _ | exact cN1 | exact cN2 | exact cC1 | exact cC2) | ((first | refine ob_le hj ?_ | refine ob_lei hj ?_ | refine ob_inb hj ?_ | refine ob_pos hj ?_ | refine ob_ne0 hj ?_ | refine ob_eqb hj ?_); (first | rfl | first | omega | (simp only [hj, std]; split <;> omega) | (simp (disch := omega) only [hj, std, cmpI, cmpB, satB, add64, sub64, ite0, pl0, pl2, pl3, sb0, if_true, if_false, eq_self] <;> omega) | (simp (disch := omega) [hj, std, cmpI, cmpB, satB, add64, sub64, ite0, pl0, pl2, pl3, sb0, if_true, if_false, eq_self] <;> omega))) | (exact rfl))
   have hq1 : nsN c1 = nsN m1 := by rw [n1, n3]
   have hq2 : nsN u2 = a2 := by rw [n5, h7, hnn]
   have hq3 : nsC c1 = nsC m1 := by rw [n2, n4]
   have hq4 : (nsC m1).length = nsN m1 := by rw [n1, n2, sC_len, nS_eq, List.length_map]
   have hq5 : b2.length = a2 * 2 := by rw [h7, h8]; exact hcl
   refine stop_go ?_; refine aw_joinj hj [(3, .keep), (4, .keep), (5, .keep), (11, .own sT), (12, .own sT)] [21, 22, 5] (fun (z : Nat) => stOf 135 [(3, .one (.ptr 21 0)), (4, .one (.ptr 22 0)), (5, .one (.ptr 5 0)), (11, .one (.view 11 0)), (12, .one (.view 12 0))] [(11, .loose [.own sT (nsN m1) (nsC m1)]), (12, .loose [.own sT (nsN c1) (nsC c1)]), (21, .box [.map .str c1, .map .str c1, .own oT 0 []]), (22, .box [.map .str u2, .map .str u2, .own oT 0 []]), (5, .box [.st (.sl a1 b1), .st (.sl a2 b2), .st (.sl z b3)])]) (fun (z : Nat) => a3 = z) ?_ (fun z hI => ?_)
   ·generalize y_nsN : @nsN = x_nsN at *
    generalize y_nsC : @nsC = x_nsC at *
    generalize y_fewA : @fewA = x_fewA at *
    generalize y_awN : @awN = x_awN at *
    generalize y_hasD : @hasD = x_hasD at *
    generalize y_getD : @getD = x_getD at *
    generalize y_nC : @nC = x_nC at *
    generalize y_nN : @nN = x_nN at *
    generalize y_fiC : @fiC = x_fiC at *
    generalize y_sC : @sC = x_sC at *
    (repeat' first | ((first | with_reducible refine tr_cut (fun h => ?_) (fun h => ?_) | refine aw_condj (by cbv) (fun h => ?_) (fun h => ?_)) <;> (try simp (disch := omega) only [hj, std, cmpI, cmpB, satB, Bool.not_eq_true, Bool.not_eq_false, decide_eq_true_eq, decide_eq_false_iff_not, beq_iff_eq, bne_iff_ne, bne_eq_false_iff_eq, beq_eq_false_iff_ne, ne_eq, reduceCtorEq, not_true_eq_false, not_false_eq_true, pl0, if_true, cmpS_eq, cmpS_neq, Bool.not_eq_eq_eq_not, Bool.not_true, Bool.not_false, Bool.not_eq_true', hq1, hq2, Int.ofNat_eq_natCast, add64, sub64] at h) <;> (try (exfalso; omega))) | (with_reducible refine tr_alt (fun h => ?_) ?_ <;> (try (exfalso; omega))) | (with_reducible first | refine tr_ob ?_ ?_ | refine tr_done ?_) | (refine aw_dc1 (id := 21) hj tok hm ((bookDW x_nsN x_nsC x_fewA x_awN x_hasD x_getD) c1) [0, 1, 2, 3, 4, 5] (.take 6 (.take 9 (.alt 7 (.take 8 (.last 10 (.take 11 (.take 12 (.take 13 .done))))) (.last 10 (.take 11 (.last 7 (.take 8 (.take 12 (.take 13 .done))))))))) (by kernel_rfl) (by cbv) ?_) | (refine aw_dc (id := 21) hj tok hm ((bookDW x_nsN x_nsC x_fewA x_awN x_hasD x_getD) c1) [0, 1, 2, 3, 4, 5] (.take 6 (.take 9 (.alt 7 (.take 8 (.last 10 (.take 11 (.take 12 (.take 13 .done))))) (.last 10 (.take 11 (.last 7 (.take 8 (.take 12 (.take 13 .done))))))))) (by kernel_rfl) (by cbv) ?_) | (refine aw_tr hj tok ((bookDW x_nsN x_nsC x_fewA x_awN x_hasD x_getD) c1) (by cbv) ?_) | (refine aw_seq fun K hK => ?_) | (refine aw_tr1 hj tok ((bookDW x_nsN x_nsC x_fewA x_awN x_hasD x_getD) c1) (by cbv) ?_) | (refine aw_skip ?_) | (refine aw_block ?_) | (refine aw_exit ?_) | (refine aw_ret ⟨.inr rfl, ret_okj hj (by cbv) ?_ ?_⟩) | (refine aw_ret ?_) | (with_reducible first | refine th_n ?_ | refine th_r ?_ | refine th_x ?_ | refine blk_n ?_ | refine blk_r ?_ | refine blk_x ?_ | refine blk_y rfl ?_) | (refine ⟨.inr rfl, ret_okj hj (by cbv) ?_ ?_⟩) | (refine ⟨.inl rfl, ret_okj hj (by cbv) ?_ ?_⟩) | (with_reducible first | refine ⟨(_, _, _), by cbv, ?_, ?_⟩ | refine ⟨_, by cbv, ?_, ?_⟩) | (with_reducible apply_assumption -symm -exfalso only [*]))
    all_goals ((try subst y_nsN); (try subst y_nsC); (try subst y_fewA); (try subst y_awN); (try subst y_hasD); (try subst y_getD); (try subst y_nC); (try subst y_nN); (try subst y_fiC); (try subst y_sC))
    all_goals (try (repeat' first | with_reducible exact obl0 | (with_reducible refine obl1 ?_ ?_)))
    all_goals (try first | with_reducible exact True.intro | ((first | refine ob_pc hj ?_ | refine ob_pcn hj ?_); (try rw [hj]); first | exact cN3) | ((first | refine ob_le hj ?_ | refine ob_lei hj ?_ | refine ob_inb hj ?_ | refine ob_pos hj ?_ | refine ob_ne0 hj ?_ | refine ob_eqb hj ?_); (first | rfl | first | omega | (simp only [hj, std]; split <;> omega) | (simp (disch := omega) only [hj, std, cmpI, cmpB, satB, add64, sub64, ite0, pl0, pl2, pl3, sb0, if_true, if_false, eq_self, hq1, hq2] <;> omega) | (simp (disch := omega) [hj, std, cmpI, cmpB, satB, add64, sub64, ite0, pl0, pl2, pl3, sb0, if_true, if_false, eq_self, hq1, hq2] <;> omega))) | (exact rfl))
   subst hI
   generalize y_nsN : @nsN = x_nsN at *
   generalize y_nsC : @nsC = x_nsC at *
   generalize y_fewA : @fewA = x_fewA at *
   generalize y_awN : @awN = x_awN at *
   generalize y_hasD : @hasD = x_hasD at *
   generalize y_getD : @getD = x_getD at *
   generalize y_nC : @nC = x_nC at *
   generalize y_nN : @nN = x_nN at *
   generalize y_fiC : @fiC = x_fiC at *
   generalize y_sC : @sC = x_sC at *
   (repeat' first | ((first | with_reducible refine tr_cut (fun h => ?_) (fun h => ?_) | refine aw_condj (by cbv) (fun h => ?_) (fun h => ?_)) <;> (try simp (disch := omega) only [hj, std, cmpI, cmpB, satB, Bool.not_eq_true, Bool.not_eq_false, decide_eq_true_eq, decide_eq_false_iff_not, beq_iff_eq, bne_iff_ne, bne_eq_false_iff_eq, beq_eq_false_iff_ne, ne_eq, reduceCtorEq, not_true_eq_false, not_false_eq_true, pl0, if_true, cmpS_eq, cmpS_neq, Bool.not_eq_eq_eq_not, Bool.not_true, Bool.not_false, Bool.not_eq_true', add64, sub64] at h) <;> (try (exfalso; omega))) | (with_reducible refine tr_alt (fun h => ?_) ?_ <;> (try (exfalso; omega))) | (with_reducible first | refine tr_ob ?_ ?_ | refine tr_done ?_) | (refine aw_tr hj tok ((bookDW x_nsN x_nsC x_fewA x_awN x_hasD x_getD) c1) (by cbv) ?_) | (refine aw_seq fun K hK => ?_) | (refine aw_tr1 hj tok ((bookDW x_nsN x_nsC x_fewA x_awN x_hasD x_getD) c1) (by cbv) ?_) | (refine aw_skip ?_) | (refine aw_block ?_) | (refine aw_exit ?_) | (refine aw_ret ⟨.inr rfl, ret_okj hj (by cbv) ?_ ?_⟩) | (refine aw_ret ?_) | (with_reducible first | refine th_n ?_ | refine th_r ?_ | refine th_x ?_ | refine blk_n ?_ | refine blk_r ?_ | refine blk_x ?_ | refine blk_y rfl ?_) | (refine ⟨.inr rfl, ret_okj hj (by cbv) ?_ ?_⟩) | (refine ⟨.inl rfl, ret_okj hj (by cbv) ?_ ?_⟩) | (with_reducible first | refine ⟨(_, _, _), by cbv, ?_, ?_⟩ | refine ⟨_, by cbv, ?_, ?_⟩) | (with_reducible apply_assumption -symm -exfalso only [*]))
   all_goals ((try subst y_nsN); (try subst y_nsC); (try subst y_fewA); (try subst y_awN); (try subst y_hasD); (try subst y_getD); (try subst y_nC); (try subst y_nN); (try subst y_fiC); (try subst y_sC))
   refine aw_lpj hj [(3, .keep), (4, .keep), (5, .keep), (11, .own sT), (12, .own sT), (13, .keep)] [21, 22, 5] (fun (g : Int) => stOf 135 [(3, .one (.ptr 21 0)), (4, .one (.ptr 22 0)), (5, .one (.ptr 5 0)), (11, .one (.view 11 0)), (12, .one (.view 12 0)), (13, .one (.c (vI g)))] [(11, .loose [.own sT (nsN m1) (nsC m1)]), (12, .loose [.own sT (nsN c1) (nsC c1)]), (21, .box [.map .str c1, .map .str c1, .own oT 0 []]), (22, .box [.map .str u2, .map .str u2, .own oT 0 []]), (5, .box [.st (.sl a1 b1), .st (.sl a2 b2), .st (.sl a3 b3)])]) (fun (g : Int) => nsN m1 - g.toNat) (fun (g : Int) => 0 ≤ g ∧ g ≤ nsN m1) (0) (by generalize @nsN = x_nsN; generalize @nsC = x_nsC; generalize @fewA = x_fewA; generalize @awN = x_awN; generalize @hasD = x_hasD; generalize @getD = x_getD; generalize @fiC = x_fiC; generalize @nC = x_nC; generalize @nN = x_nN; generalize @sC = x_sC; cbv) ?_ (fun g hI => ?_)
   ·exact ⟨by omega, by omega⟩
   obtain ⟨g1, g2⟩ := hI
   rcases Decidable.em (g < (nsN m1 : Int)) with hg | hg
   ·have hkl : g.toNat < d.l1.length := by omega
    have c0 : cellAt (nsC m1) g.toNat = vS (nAt d.l1 g.toNat).1 := by
     rw [n2, nAt_get hkl]
     unfold cellAt sC kys
     rw [List.getD_eq_getElem?_getD]
     simp [hkl]
    generalize y_nsN : @nsN = x_nsN at *
    generalize y_nsC : @nsC = x_nsC at *
    generalize y_fewA : @fewA = x_fewA at *
    generalize y_awN : @awN = x_awN at *
    generalize y_hasD : @hasD = x_hasD at *
    generalize y_getD : @getD = x_getD at *
    generalize y_nC : @nC = x_nC at *
    generalize y_nN : @nN = x_nN at *
    generalize y_fiC : @fiC = x_fiC at *
    generalize y_sC : @sC = x_sC at *
    (repeat' first | ((first | with_reducible refine tr_cut (fun h => ?_) (fun h => ?_) | refine aw_condj (by cbv) (fun h => ?_) (fun h => ?_)) <;> (try simp (disch := omega) only [hj, std, cmpI, cmpB, satB, Bool.not_eq_true, Bool.not_eq_false, decide_eq_true_eq, decide_eq_false_iff_not, beq_iff_eq, bne_iff_ne, bne_eq_false_iff_eq, beq_eq_false_iff_ne, ne_eq, reduceCtorEq, not_true_eq_false, not_false_eq_true, pl0, if_true, cmpS_eq, cmpS_neq, Bool.not_eq_eq_eq_not, Bool.not_true, Bool.not_false, Bool.not_eq_true', hq1, hq3, ite0, Int.ofNat_eq_natCast, add64, sub64] at h) <;> (try (exfalso; omega))) | (with_reducible refine tr_alt (fun h => ?_) ?_ <;> (try (exfalso; omega))) | (with_reducible first | refine tr_ob ?_ ?_ | refine tr_done ?_) | (refine aw_dr1 (id := 26) hj tok hm ((bookDW x_nsN x_nsC x_fewA x_awN x_hasD x_getD) c1) true [(0, false), (1, false), (2, false), (3, false), (4, false), (5, true), (6, true), (7, true), (8, true)] (by kernel_rfl) (by cbv) ?_) | (refine aw_dr (id := 26) hj tok hm ((bookDW x_nsN x_nsC x_fewA x_awN x_hasD x_getD) c1) true [(0, false), (1, false), (2, false), (3, false), (4, false), (5, true), (6, true), (7, true), (8, true)] (by kernel_rfl) (by cbv) ?_) | (refine aw_tr hj tok ((bookDW x_nsN x_nsC x_fewA x_awN x_hasD x_getD) c1) (by cbv) ?_) | (refine aw_seq fun K hK => ?_) | (refine aw_tr1 hj tok ((bookDW x_nsN x_nsC x_fewA x_awN x_hasD x_getD) c1) (by cbv) ?_) | (refine aw_skip ?_) | (refine aw_block ?_) | (refine aw_exit ?_) | (refine aw_ret ⟨.inr rfl, ret_okj hj (by cbv) ?_ ?_⟩) | (refine aw_ret ?_) | (with_reducible first | refine th_n ?_ | refine th_r ?_ | refine th_x ?_ | refine blk_n ?_ | refine blk_r ?_ | refine blk_x ?_ | refine blk_y rfl ?_) | (refine ⟨.inr rfl, ret_okj hj (by cbv) ?_ ?_⟩) | (refine ⟨.inl rfl, ret_okj hj (by cbv) ?_ ?_⟩) | (with_reducible first | refine ⟨(_, _, _), by cbv, ?_, ?_⟩ | refine ⟨_, by cbv, ?_, ?_⟩) | (with_reducible apply_assumption -symm -exfalso only [*]))
    all_goals ((try subst y_nsN); (try subst y_nsC); (try subst y_fewA); (try subst y_awN); (try subst y_hasD); (try subst y_getD); (try subst y_nC); (try subst y_nN); (try subst y_fiC); (try subst y_sC))
    all_goals (try (repeat' first | with_reducible exact obl0 | (with_reducible refine obl1 ?_ ?_)))
    all_goals (try first | with_reducible exact True.intro | ((first | refine ob_le hj ?_ | refine ob_lei hj ?_ | refine ob_inb hj ?_ | refine ob_pos hj ?_ | refine ob_ne0 hj ?_ | refine ob_eqb hj ?_); (first | rfl | first | omega | (simp only [hj, std]; split <;> omega) | (simp (disch := omega) only [hj, std, cmpI, cmpB, satB, add64, sub64, ite0, pl0, pl2, pl3, sb0, if_true, if_false, eq_self, hq1, hq3, hq4] <;> omega) | (simp (disch := omega) [hj, std, cmpI, cmpB, satB, add64, sub64, ite0, pl0, pl2, pl3, sb0, if_true, if_false, eq_self, hq1, hq3, hq4] <;> omega))) | ((refine ob_ok hj ?_; simp only [hj, std, ite0, hq3]; exact ⟨_, c0⟩)) | ((simp (disch := omega) only [hj, std, add64]; first | omega | exact ⟨by omega, by omega⟩)))
   ·generalize y_nsN : @nsN = x_nsN at *
    generalize y_nsC : @nsC = x_nsC at *
    generalize y_fewA : @fewA = x_fewA at *
    generalize y_awN : @awN = x_awN at *
    generalize y_hasD : @hasD = x_hasD at *
    generalize y_getD : @getD = x_getD at *
    generalize y_nC : @nC = x_nC at *
    generalize y_nN : @nN = x_nN at *
    generalize y_fiC : @fiC = x_fiC at *
    generalize y_sC : @sC = x_sC at *
    (repeat' first | ((first | with_reducible refine tr_cut (fun h => ?_) (fun h => ?_) | refine aw_condj (by cbv) (fun h => ?_) (fun h => ?_)) <;> (try simp (disch := omega) only [hj, std, cmpI, cmpB, satB, Bool.not_eq_true, Bool.not_eq_false, decide_eq_true_eq, decide_eq_false_iff_not, beq_iff_eq, bne_iff_ne, bne_eq_false_iff_eq, beq_eq_false_iff_ne, ne_eq, reduceCtorEq, not_true_eq_false, not_false_eq_true, pl0, if_true, cmpS_eq, cmpS_neq, Bool.not_eq_eq_eq_not, Bool.not_true, Bool.not_false, Bool.not_eq_true', add64, sub64] at h) <;> (try (exfalso; omega))) | (with_reducible refine tr_alt (fun h => ?_) ?_ <;> (try (exfalso; omega))) | (with_reducible first | refine tr_ob ?_ ?_ | refine tr_done ?_) | (refine aw_tr hj tok ((bookDW x_nsN x_nsC x_fewA x_awN x_hasD x_getD) c1) (by cbv) ?_) | (refine aw_seq fun K hK => ?_) | (refine aw_tr1 hj tok ((bookDW x_nsN x_nsC x_fewA x_awN x_hasD x_getD) c1) (by cbv) ?_) | (refine aw_skip ?_) | (refine aw_block ?_) | (refine aw_exit ?_) | (refine aw_ret ⟨.inr rfl, ret_okj hj (by cbv) ?_ ?_⟩) | (refine aw_ret ?_) | (with_reducible first | refine th_n ?_ | refine th_r ?_ | refine th_x ?_ | refine blk_n ?_ | refine blk_r ?_ | refine blk_x ?_ | refine blk_y rfl ?_) | (refine ⟨.inr rfl, ret_okj hj (by cbv) ?_ ?_⟩) | (refine ⟨.inl rfl, ret_okj hj (by cbv) ?_ ?_⟩) | (with_reducible first | refine ⟨(_, _, _), by cbv, ?_, ?_⟩ | refine ⟨_, by cbv, ?_, ?_⟩) | (with_reducible apply_assumption -symm -exfalso only [*]))
    all_goals ((try subst y_nsN); (try subst y_nsC); (try subst y_fewA); (try subst y_awN); (try subst y_hasD); (try subst y_getD); (try subst y_nC); (try subst y_nN); (try subst y_fiC); (try subst y_sC))
    refine aw_lpj hj [(3, .keep), (4, .keep), (5, .keep), (14, .keep)] [21, 22, 5] (fun (g : Int) => stOf 135 [(3, .one (.ptr 21 0)), (4, .one (.ptr 22 0)), (5, .one (.ptr 5 0)), (14, .one (.c (vI g)))] [(21, .box [.map .str c1, .map .str c1, .own oT 0 []]), (22, .box [.map .str u2, .map .str u2, .own oT 0 []]), (5, .box [.st (.sl a1 b1), .st (.sl a2 b2), .st (.sl a3 b3)])]) (fun (g : Int) => a2 - g.toNat) (fun (g : Int) => 0 ≤ g ∧ g ≤ a2) (0) (by generalize @nsN = x_nsN; generalize @nsC = x_nsC; generalize @fewA = x_fewA; generalize @awN = x_awN; generalize @hasD = x_hasD; generalize @getD = x_getD; generalize @fiC = x_fiC; generalize @nC = x_nC; generalize @nN = x_nN; generalize @sC = x_sC; cbv) ?_ (fun g hI => ?_)
    ·exact ⟨by omega, by omega⟩
    obtain ⟨r1, r2⟩ := hI
    rename_i g
    rcases Decidable.em (g < (a2 : Int)) with hg | hg
    ·have hkl : g.toNat < d.l2.length := by omega
     obtain ⟨c2, c3⟩ := hcat g.toNat hkl
     rw [← h8] at c2 c3
     have hmem : ((nAt d.l2 g.toNat).1, (nAt d.l2 g.toNat).2) ∈ d.l2 := by rw [nAt_get hkl]; exact List.getElem_mem hkl
     have v1 : getD u2 (nAt d.l2 g.toNat).1 = (nAt d.l2 g.toNat).2 := U2.get hmem
     have v2 : hasD u2 (nAt d.l2 g.toNat).1 = true := (U2.has _).2 ((find_has _ _).2 (List.mem_map.2 ⟨_, hmem, rfl⟩))
     have cG := c_GetD u2 u2 0 [] (nAt d.l2 g.toNat).1 U2.mi
     have t1 : gs (cellAt b2 (g.toNat * 2)) = (nAt d.l2 g.toNat).1 := by rw [c2]; rfl
     have t2 : gi (cellAt b2 (g.toNat * 2 + 1)) = (nAt d.l2 g.toNat).2 := by rw [c3]; rfl
     generalize nAt d.l2 g.toNat = X at *
     obtain ⟨X, V⟩ := X
     dsimp only at c2 c3 v1 v2 cG t1 t2
     generalize y_nsN : @nsN = x_nsN at *
     generalize y_nsC : @nsC = x_nsC at *
     generalize y_fewA : @fewA = x_fewA at *
     generalize y_awN : @awN = x_awN at *
     generalize y_hasD : @hasD = x_hasD at *
     generalize y_getD : @getD = x_getD at *
     generalize y_nC : @nC = x_nC at *
     generalize y_nN : @nN = x_nN at *
     generalize y_fiC : @fiC = x_fiC at *
     generalize y_sC : @sC = x_sC at *
     (repeat' first | ((first | with_reducible refine tr_cut (fun h => ?_) (fun h => ?_) | refine aw_condj (by cbv) (fun h => ?_) (fun h => ?_)) <;> (try simp (disch := omega) only [hj, std, cmpI, cmpB, satB, Bool.not_eq_true, Bool.not_eq_false, decide_eq_true_eq, decide_eq_false_iff_not, beq_iff_eq, bne_iff_ne, bne_eq_false_iff_eq, beq_eq_false_iff_ne, ne_eq, reduceCtorEq, not_true_eq_false, not_false_eq_true, pl0, if_true, cmpS_eq, cmpS_neq, Bool.not_eq_eq_eq_not, Bool.not_true, Bool.not_false, Bool.not_eq_true', hq2, t1, t2, v1, v2, ite0, Int.ofNat_eq_natCast, add64, sub64] at h) <;> (try (exfalso; omega))) | (with_reducible refine tr_alt (fun h => ?_) ?_ <;> (try (exfalso; omega))) | (with_reducible first | refine tr_ob ?_ ?_ | refine tr_done ?_) | (refine aw_tr hj tok ((bookDW x_nsN x_nsC x_fewA x_awN x_hasD x_getD) c1) (by cbv) ?_) | (refine aw_seq fun K hK => ?_) | (refine aw_tr1 hj tok ((bookDW x_nsN x_nsC x_fewA x_awN x_hasD x_getD) c1) (by cbv) ?_) | (refine aw_skip ?_) | (refine aw_block ?_) | (refine aw_exit ?_) | (refine aw_ret ⟨.inr rfl, ret_okj hj (by cbv) ?_ ?_⟩) | (refine aw_ret ?_) | (with_reducible first | refine th_n ?_ | refine th_r ?_ | refine th_x ?_ | refine blk_n ?_ | refine blk_r ?_ | refine blk_x ?_ | refine blk_y rfl ?_) | (refine ⟨.inr rfl, ret_okj hj (by cbv) ?_ ?_⟩) | (refine ⟨.inl rfl, ret_okj hj (by cbv) ?_ ?_⟩) | (with_reducible first | refine ⟨(_, _, _), by cbv, ?_, ?_⟩ | refine ⟨_, by cbv, ?_, ?_⟩) | (with_reducible apply_assumption -symm -exfalso only [*]))
     all_goals ((try subst y_nsN); (try subst y_nsC); (try subst y_fewA); (try subst y_awN); (try subst y_hasD); (try subst y_getD); (try subst y_nC); (try subst y_nN); (try subst y_fiC); (try subst y_sC))
     all_goals (try (repeat' first | with_reducible exact obl0 | (with_reducible refine obl1 ?_ ?_)))
     all_goals (try first | with_reducible exact True.intro | ((first | refine ob_pc hj ?_ | refine ob_pcn hj ?_); (try rw [hj]); first | exact cG | (simp only [std, t1]; exact cG)) | ((first | refine ob_le hj ?_ | refine ob_lei hj ?_ | refine ob_inb hj ?_ | refine ob_pos hj ?_ | refine ob_ne0 hj ?_ | refine ob_eqb hj ?_); (first | rfl | first | omega | (simp only [hj, std]; split <;> omega) | (simp (disch := omega) only [hj, std, cmpI, cmpB, satB, add64, sub64, ite0, pl0, pl2, pl3, sb0, if_true, if_false, eq_self, hq5, t1, t2, v1, v2] <;> omega) | (simp (disch := omega) [hj, std, cmpI, cmpB, satB, add64, sub64, ite0, pl0, pl2, pl3, sb0, if_true, if_false, eq_self, hq5, t1, t2, v1, v2] <;> omega))) | ((refine ob_ok hj ?_; simp only [hj, std, ite0]; first | exact ⟨_, c2⟩ | exact ⟨_, c3⟩)) | ((simp (disch := omega) only [hj, std, add64]; first | omega | exact ⟨by omega, by omega⟩)))
    ·generalize y_nsN : @nsN = x_nsN at *
     generalize y_nsC : @nsC = x_nsC at *
     generalize y_fewA : @fewA = x_fewA at *
     generalize y_awN : @awN = x_awN at *
     generalize y_hasD : @hasD = x_hasD at *
     generalize y_getD : @getD = x_getD at *
     generalize y_nC : @nC = x_nC at *
     generalize y_nN : @nN = x_nN at *
     generalize y_fiC : @fiC = x_fiC at *
     generalize y_sC : @sC = x_sC at *
     (repeat' first | ((first | with_reducible refine tr_cut (fun h => ?_) (fun h => ?_) | refine aw_condj (by cbv) (fun h => ?_) (fun h => ?_)) <;> (try simp (disch := omega) only [hj, std, cmpI, cmpB, satB, Bool.not_eq_true, Bool.not_eq_false, decide_eq_true_eq, decide_eq_false_iff_not, beq_iff_eq, bne_iff_ne, bne_eq_false_iff_eq, beq_eq_false_iff_ne, ne_eq, reduceCtorEq, not_true_eq_false, not_false_eq_true, pl0, if_true, cmpS_eq, cmpS_neq, Bool.not_eq_eq_eq_not, Bool.not_true, Bool.not_false, Bool.not_eq_true', Int.ofNat_eq_natCast, add64, sub64] at h) <;> (try (exfalso; omega))) | (with_reducible refine tr_alt (fun h => ?_) ?_ <;> (try (exfalso; omega))) | (with_reducible first | refine tr_ob ?_ ?_ | refine tr_done ?_) | (refine aw_tr hj tok ((bookDW x_nsN x_nsC x_fewA x_awN x_hasD x_getD) c1) (by cbv) ?_) | (refine aw_seq fun K hK => ?_) | (refine aw_tr1 hj tok ((bookDW x_nsN x_nsC x_fewA x_awN x_hasD x_getD) c1) (by cbv) ?_) | (refine aw_skip ?_) | (refine aw_block ?_) | (refine aw_exit ?_) | (refine aw_ret ⟨.inr rfl, ret_okj hj (by cbv) ?_ ?_⟩) | (refine aw_ret ?_) | (with_reducible first | refine th_n ?_ | refine th_r ?_ | refine th_x ?_ | refine blk_n ?_ | refine blk_r ?_ | refine blk_x ?_ | refine blk_y rfl ?_) | (refine ⟨.inr rfl, ret_okj hj (by cbv) ?_ ?_⟩) | (refine ⟨.inl rfl, ret_okj hj (by cbv) ?_ ?_⟩) | (with_reducible first | refine ⟨(_, _, _), by cbv, ?_, ?_⟩ | refine ⟨_, by cbv, ?_, ?_⟩) | (with_reducible apply_assumption -symm -exfalso only [*]))
     all_goals ((try subst y_nsN); (try subst y_nsC); (try subst y_fewA); (try subst y_awN); (try subst y_hasD); (try subst y_getD); (try subst y_nC); (try subst y_nN); (try subst y_fiC); (try subst y_sC))
     all_goals (try (repeat' first | with_reducible exact obl0 | with_reducible refine obl1 ?_ ?_))
     all_goals (try first | with_reducible exact True.intro | ((first | refine ob_pc hj ?_ | refine ob_pcn hj ?_); (try rw [hj]); first | exact c_PendD _ _ _ _ | exact c_awake09) | ((first | refine ob_le hj ?_ | refine ob_lei hj ?_ | refine ob_inb hj ?_ | refine ob_pos hj ?_ | refine ob_ne0 hj ?_ | refine ob_eqb hj ?_); (first | rfl | first | omega | (simp only [hj, std]; split <;> omega) | (simp (disch := omega) only [hj, std, cmpI, cmpB, satB, add64, sub64, ite0, pl0, pl2, pl3, sb0, if_true, if_false, eq_self] <;> omega) | (simp (disch := omega) [hj, std, cmpI, cmpB, satB, add64, sub64, ite0, pl0, pl2, pl3, sb0, if_true, if_false, eq_self] <;> omega))) | (exact rfl))
end Go.Proofs.Ytnmlcfjljeccnaa.A
/- DirWhole: the walk, as the row's step asks for it. -/
set_option linter.unusedSimpArgs false
set_option linter.unusedVariables false
set_option maxRecDepth 100000
set_option maxHeartbeats 4000000
namespace Go.Proofs.Ytnmlcfjljeccnaa
open Go Go.RowKit
theorem dirWhole_walk (w : World) (a0 : Option Addr) (len0 cap0 : Nat) (x0 : List A.Da) (R0 : RSl 5 72 A.RDAct w [.slice a0 len0 cap0] x0) :
    Calls Try.prog 6 #[.slice a0 len0 cap0] w fun e w' => e = .returned (.bool true) ∧ Below w.heap.size w w' := by
  have hb0 := A.sl_bound' R0
  exact A.walk_of_pc (vs := [.slice a0 len0 cap0]) (A.pc_DirWholeL x0.length (x0.flatMap A.daOf) (A.da_len x0) (by omega) (A.da_acts R0)) (by simp [A.Arg.asRoot]) (fun b => b < w.heap.size) (fun _ h => h) rfl (fun i h h2 => by
    have h3 : i < 1 := h
    match i, h3 with
    | 0, _ =>
      obtain ⟨n, rfl, hc⟩ := A.arg_sl A.rdc_dact (fun _ => rfl) R0
      exact ⟨_, rfl, hc⟩)
end Go.Proofs.Ytnmlcfjljeccnaa
