/- What TrieStates needs beyond, part 1. -/
import Derived.Test.YtcpcghnpoekhpaaMz5
import Derived.WalkKit
import Derived.WalkSpells
import Derived.WalkLawsBesides
import Derived.Lib.Hide
import Derived.Laws.AppendOwnNone
import Derived.Laws.CopyOwn
import Derived.BigQuiet
import Derived.Deep.QuietTactic
import Derived.Deep.RegionHeld3
import Derived.Deep.AppendLies
import Derived.OrdersHeld
import Derived.MapKept
import Derived.Laws.StructEq
import Derived.Great.BuildSlice
import Derived.Laws.IdiomStrings
import Derived.Lib.AppendZeros
import Derived.RangeFuncIn
import Derived.OwnWalkIn
import Derived.RangeFuncNested
import Derived.RangeFuncLeaves
import Derived.ProofKit
import Derived.OpenShut
import Derived.SizedLaws
import Derived.Deep.Slices
import Derived.Deep.Strs
import Derived.Lib.Bytealg
import Derived.Sort.Walk0
import Derived.RangeFuncRecord
import Derived.Test.YtcpcghnpoekhpaaProg
import Derived.RangeFuncBound
import Derived.RangeFuncCalls
import Derived.Shelf.Abstract
import Derived.Shelf.RegionOpen
import Derived.TacticsInMore
import Derived.LoopNIn
import Derived.LoopIn
import Derived.Lib.Small
import Derived.Sort.Statements
import Derived.Shelf.SlGeneric
import Derived.Shelf.Small.Strs
import Derived.Shelf.Small.Wraps
import Derived.Shelf.SlSortCmp.NoneTotal
import Derived.Ground.SlsfProg
import Derived.Lib.OwnBridge
import Derived.Maps.Range
/- Tries: the plain law: fronts in order, their tree, what it tells, how its states stand; the reference's fronts. No program in sight. -/
set_option linter.unusedSimpArgs false
set_option linter.unusedVariables false
set_option maxRecDepth 100000
set_option maxHeartbeats 4000000
namespace Go.Proofs.Ytcpcghnpoekhpaa.A
open Go
/-! ### words and their beginnings -/
/-! ### fronts: sorted, each once, with all their beginnings -/
variable {gs : List ByteArray}
/-! ### children -/
/-! ### the tree, when the rows' rules are laid, too -/
/-! ### its edges rise -/
/-! ### where it goes -/
/-! ### its states stand in the order of their being met -/
/-! ### the fronts: each beginning once, as9 it is first met; then sorted -/
/-! ### the reference's fronts -/
def numF (f : List ByteArray) (w : ByteArray) : Nat := (f.filter fun x => ltF x w).length
theorem numF_eq (rows : List Rw) (w : ByteArray) (hw : w ∈ gsR rows) : (numF (fronts rows) w : Int) = numG (gsR rows) w := by
 have hp := (fronts_perm rows).filter (fun x => ltF x w)
 unfold numF
 rw [hp.length_eq]
 have h := FG_gsR rows
 generalize gsR rows = gs at *
 obtain ⟨k, hk, rfl⟩ := List.getElem_of_mem hw
 rw [numG_get h hk]
 have e : gs.filter (fun x => ltF x gs[k]) = gs.take k := by
  have e2 : gs.filter (fun x => ltF x gs[k]) = (gs.take k).filter (fun x => ltF x gs[k]) ++ (gs.drop k).filter (fun x => ltF x gs[k]) := by rw [← List.filter_append, List.take_append_drop]
  have e3 : (gs.take k).filter (fun x => ltF x gs[k]) = gs.take k := List.filter_eq_self.2 fun x hx => by
   obtain ⟨t, ht, rfl⟩ := List.getElem_of_mem hx
   rw [List.length_take] at ht
   rw [List.getElem_take]
   exact (h.lt (by omega) hk).2 (by omega)
  have e4 : (gs.drop k).filter (fun x => ltF x gs[k]) = [] := List.filter_eq_nil_iff.2 fun x hx => by
   obtain ⟨t, ht, rfl⟩ := List.getElem_of_mem hx
   rw [List.length_drop] at ht
   rw [List.getElem_drop]
   intro q
   have := (h.lt (by omega) hk).1 q
   omega
  rw [e2, e3, e4, List.append_nil]
 rw [e, List.length_take]; omega
/-! ### the children of a front, as9 the reference lists them -/
def kidB (b x : ByteArray) : Bool := decide (x.size = b.size + 1 ∧ x.extract 0 b.size = b)
theorem kidB_iff {b x : ByteArray} : kidB b x = true ↔ 0 < x.size ∧ dl x = b := by
 unfold kidB
 rw [decide_eq_true_eq]
 constructor
 ·rintro ⟨h1, h2⟩
  refine ⟨by omega, ?_⟩
  unfold dl
  rw [h1, Nat.add_sub_cancel]; exact h2
 ·rintro ⟨h1, h2⟩
  have hs := dl_size x
  rw [h2] at hs
  refine ⟨by omega, ?_⟩
  rw [hs]; exact h2
theorem chilG_filter (h : FG gs) (b : ByteArray) : ∀ (l : List ByteArray) (i : Nat), gs.drop i = l → chilG b i l = (l.filter (kidB b)).map fun x => (la x, numG gs x) := by
 intro l
 induction l with
 | nil => intro i _; rfl
 | cons x l ih =>
  intro i he
  have hi : i < gs.length := by
   have := congrArg List.length he
   rw [List.length_drop, List.length_cons] at this
   omega
  rw [List.drop_eq_getElem_cons hi] at he
  injection he with hx hl
  unfold chilG
  rw [ih (i + 1) hl, List.filter_cons]
  by_cases hk : kidB b x = true
  ·rw [if_pos (kidB_iff.1 hk), if_pos hk, List.map_cons]
   congr 2
   rw [← hx, numG_get h hi]
  ·rw [if_neg (fun q => hk (kidB_iff.2 q)), if_neg hk]
theorem chil_fronts (rows : List Rw) (b : ByteArray) : chilG b 0 (gsR rows) = ((fronts rows).filter (kidB b)).map fun x => (la x, (numF (fronts rows) x : Int)) := by
 rw [chilG_filter (FG_gsR rows) b (gsR rows) 0 rfl]
 have e : (gsR rows).filter (kidB b) = (fronts rows).filter (kidB b) := by
  refine set_uniq ?_ ((fronts_set rows).filter _) fun x => by rw [List.mem_filter, List.mem_filter, mem_fronts]
  have hp := (FG_gsR rows).so.filter (kidB b)
  refine hp.imp_of_mem fun {x y} hx hy q => ?_
  have h1 := (List.mem_filter.1 hx).2
  have h2 := (List.mem_filter.1 hy).2
  unfold kidB at h1 h2
  rw [decide_eq_true_eq] at h1 h2
  rw [ltF_iff] at q
  rw [ltS_iff]
  rcases q with q | q
  ·omega
  ·exact q.2
 rw [e]
 apply List.map_congr_left
 intro x hx
 rw [numF_eq rows x ((mem_fronts rows x).1 (List.mem_filter.1 hx).1)]
theorem kid_at (f : List ByteArray) (b : ByteArray) {k : Nat} (hk : k < f.length) (h : kidB b f[k] = true) (g : ByteArray → Eg) : ((f.take k).filter (kidB b)).length < ((f.filter (kidB b)).map g).length ∧ eAt ((f.filter (kidB b)).map g) ((f.take k).filter (kidB b)).length = g f[k] ∧ (f.take (k + 1)).filter (kidB b) = (f.take k).filter (kidB b) ++ [f[k]] := by
 have e : f.filter (kidB b) = (f.take k).filter (kidB b) ++ f[k] :: (f.drop (k + 1)).filter (kidB b) := by
  conv => lhs; rw [← List.take_append_drop k f, List.filter_append, List.drop_eq_getElem_cons hk, List.filter_cons, if_pos h]
 refine ⟨?_, ?_, ?_⟩
 ·rw [e, List.length_map, List.length_append, List.length_cons]; omega
 ·show List.getD _ _ _ = _
  rw [e, List.map_append, List.map_cons, List.getD_eq_getElem?_getD, List.getElem?_append_right (by simp), List.length_map, Nat.sub_self]; rfl
 ·rw [List.take_succ_eq_append_getElem hk, List.filter_append, List.filter_cons, if_pos h]; rfl
theorem kid_not (f : List ByteArray) (b : ByteArray) {k : Nat} (hk : k < f.length) (h : kidB b f[k] = false) : (f.take (k + 1)).filter (kidB b) = (f.take k).filter (kidB b) := by
 rw [List.take_succ_eq_append_getElem hk, List.filter_append, List.filter_cons, if_neg (by rw [h]; simp)]; simp
end Go.Proofs.Ytcpcghnpoekhpaa.A
/- Tries: words put in order; the reference's fronts; the number of a front. -/
set_option linter.unusedSimpArgs false
set_option linter.unusedVariables false
set_option maxRecDepth 100000
set_option maxHeartbeats 4000000
namespace Go.Proofs.Ytcpcghnpoekhpaa.A
open Go
theorem numF_snoc (f : List ByteArray) (x w : ByteArray) : numF (f ++ [x]) w = numF f w + if ltF x w = true then 1 else 0 := by
 unfold numF
 rw [List.filter_append, List.length_append, List.filter_cons]
 split <;> rfl
theorem numF_le (f : List ByteArray) (w : ByteArray) : numF f w ≤ f.length := List.length_filter_le _ _
theorem pc_number24 (f : List ByteArray) (w : ByteArray) (hl : f.length ≤ 1000000) (hsz : ∀ s ∈ f, s.size ≤ 100) (hw : w.size ≤ 100) : PC Try.prog T 14 [.v false [(C.sl (nS f) (sC f))], .v false [vS w]] (ret1 (.st (vI (numF f w)))) [] := by
 have nf := nS_eq f
 refine pc_of tok Try.func14 rfl (by rfl) ?_
 obtain ⟨j, hj⟩ : ∃ j : J, j = std Try.prog T := ⟨_, rfl⟩
 have hm : Try.prog.follows .mixedOrders = true := by kernel_rfl
 generalize y_ltS : @ltS = x_ltS at *
 generalize y_hasS : @hasS = x_hasS at *
 generalize y_strsOf : @strsOf = x_strsOf at *
 generalize y_sC : @sC = x_sC at *
 generalize y_nS : @nS = x_nS at *
 (repeat' first | ((first | with_reducible refine tr_cut (fun h => ?_) (fun h => ?_) | refine aw_condj (by cbv) (fun h => ?_) (fun h => ?_)) <;> (try simp (disch := omega) only [hj, std, cmpI, cmpB, satB, Bool.not_eq_true, Bool.not_eq_false, decide_eq_true_eq, decide_eq_false_iff_not, beq_iff_eq, bne_iff_ne, bne_eq_false_iff_eq, beq_eq_false_iff_ne, ne_eq, reduceCtorEq, not_true_eq_false, not_false_eq_true, pl0, if_true, cmpS_eq, cmpS_neq, Bool.not_eq_eq_eq_not, Bool.not_true, Bool.not_false, Bool.not_eq_true', add64, sub64] at h) <;> (try (exfalso; omega))) | (with_reducible refine tr_alt (fun h => ?_) ?_ <;> (try (exfalso; omega))) | (with_reducible first | refine tr_ob ?_ ?_ | refine tr_done ?_) | (refine aw_tr hj tok (bookP24 x_ltS x_hasS x_strsOf) (by cbv) ?_) | (refine aw_seq fun K hK => ?_) | (refine aw_tr1 hj tok (bookP24 x_ltS x_hasS x_strsOf) (by cbv) ?_) | (refine aw_skip ?_) | (refine aw_block ?_) | (refine aw_exit ?_) | (refine aw_ret ⟨.inr rfl, ret_okj hj (by cbv) ?_ ?_⟩) | (refine aw_ret ?_) | (with_reducible first | refine th_n ?_ | refine th_r ?_ | refine th_x ?_ | refine blk_n ?_ | refine blk_r ?_ | refine blk_x ?_ | refine blk_y rfl ?_) | (refine ⟨.inr rfl, ret_okj hj (by cbv) ?_ ?_⟩) | (refine ⟨.inl rfl, ret_okj hj (by cbv) ?_ ?_⟩) | (with_reducible first | refine ⟨(_, _), by cbv, ?_, ?_⟩ | refine ⟨_, by cbv, ?_, ?_⟩) | (with_reducible apply_assumption -symm -exfalso only [*]))
 all_goals ((try subst y_ltS); (try subst y_hasS); (try subst y_strsOf); (try subst y_sC); (try subst y_nS))
 all_goals (try (repeat' first | with_reducible exact obl0 | (with_reducible refine obl1 ?_ ?_)))
 all_goals (try first | with_reducible exact True.intro | ((first | refine ob_le hj ?_ | refine ob_lei hj ?_ | refine ob_inb hj ?_ | refine ob_pos hj ?_ | refine ob_ne0 hj ?_ | refine ob_eqb hj ?_); (first | rfl | first | omega | (simp only [hj, std]; split <;> omega) | (simp (disch := omega) only [hj, std, cmpI, cmpB, satB, add64, sub64, ite0, pl0, pl2, pl3, sb0, if_true, if_false, eq_self] <;> omega) | (simp (disch := omega) [hj, std, cmpI, cmpB, satB, add64, sub64, ite0, pl0, pl2, pl3, sb0, if_true, if_false, eq_self] <;> omega))))
 refine aw_lpj hj [(0, .keep), (1, .keep), (5, .keep), (6, .keep)] [] (fun (⟨i, n⟩ : Int × Int) => stOf 42 [(0, .one (.c ((C.sl (nS f) (sC f))))), (1, .one (.c (vS w))), (5, .one (.c (vI n))), (6, .one (.c (vI i)))] []) (fun (⟨i, n⟩ : Int × Int) => nS f - i.toNat) (fun (⟨i, n⟩ : Int × Int) => 0 ≤ i ∧ i ≤ nS f ∧ n = numF (f.take i.toNat) w) ((0, 0)) (by generalize @ltS = x_ltS; generalize @hasS = x_hasS; generalize @strsOf = x_strsOf; generalize @sC = x_sC; generalize @nS = x_nS; cbv) ?_ (fun ⟨i, n⟩ hI => ?_)
 ·exact ⟨by omega, by omega, rfl⟩
 obtain ⟨i1, i2, i3⟩ := hI
 rcases Decidable.em (i < (nS f : Int)) with hi | hi
 rotate_left
 ·have hE : n = numF f w := by rw [i3, List.take_of_length_le (by omega)]
  generalize y_ltS : @ltS = x_ltS at *
  generalize y_hasS : @hasS = x_hasS at *
  generalize y_strsOf : @strsOf = x_strsOf at *
  generalize y_sC : @sC = x_sC at *
  generalize y_nS : @nS = x_nS at *
  (repeat' first | ((first | with_reducible refine tr_cut (fun h => ?_) (fun h => ?_) | refine aw_condj (by cbv) (fun h => ?_) (fun h => ?_)) <;> (try simp (disch := omega) only [hj, std, cmpI, cmpB, satB, Bool.not_eq_true, Bool.not_eq_false, decide_eq_true_eq, decide_eq_false_iff_not, beq_iff_eq, bne_iff_ne, bne_eq_false_iff_eq, beq_eq_false_iff_ne, ne_eq, reduceCtorEq, not_true_eq_false, not_false_eq_true, pl0, if_true, cmpS_eq, cmpS_neq, Bool.not_eq_eq_eq_not, Bool.not_true, Bool.not_false, Bool.not_eq_true', add64, sub64] at h) <;> (try (exfalso; omega))) | (with_reducible refine tr_alt (fun h => ?_) ?_ <;> (try (exfalso; omega))) | (with_reducible first | refine tr_ob ?_ ?_ | refine tr_done ?_) | (refine aw_tr hj tok (bookP24 x_ltS x_hasS x_strsOf) (by cbv) ?_) | (refine aw_seq fun K hK => ?_) | (refine aw_tr1 hj tok (bookP24 x_ltS x_hasS x_strsOf) (by cbv) ?_) | (refine aw_skip ?_) | (refine aw_block ?_) | (refine aw_exit ?_) | (refine aw_ret ⟨.inr rfl, ret_okj hj (by cbv) ?_ ?_⟩) | (refine aw_ret ?_) | (with_reducible first | refine th_n ?_ | refine th_r ?_ | refine th_x ?_ | refine blk_n ?_ | refine blk_r ?_ | refine blk_x ?_ | refine blk_y rfl ?_) | (refine ⟨.inr rfl, ret_okj hj (by cbv) ?_ ?_⟩) | (refine ⟨.inl rfl, ret_okj hj (by cbv) ?_ ?_⟩) | (with_reducible first | refine ⟨(_, _), by cbv, ?_, ?_⟩ | refine ⟨_, by cbv, ?_, ?_⟩) | (with_reducible apply_assumption -symm -exfalso only [*]))
  all_goals ((try subst y_ltS); (try subst y_hasS); (try subst y_strsOf); (try subst y_sC); (try subst y_nS))
  all_goals (try (repeat' first | with_reducible exact obl0 | (with_reducible refine obl1 ?_ ?_)))
  all_goals (try first | with_reducible exact True.intro | ((first | refine ob_le hj ?_ | refine ob_lei hj ?_ | refine ob_inb hj ?_ | refine ob_pos hj ?_ | refine ob_ne0 hj ?_ | refine ob_eqb hj ?_); (first | rfl | first | omega | (simp only [hj, std]; split <;> omega) | (simp (disch := omega) only [hj, std, cmpI, cmpB, satB, add64, sub64, ite0, pl0, pl2, pl3, sb0, if_true, if_false, eq_self] <;> omega) | (simp (disch := omega) [hj, std, cmpI, cmpB, satB, add64, sub64, ite0, pl0, pl2, pl3, sb0, if_true, if_false, eq_self] <;> omega))) | ((rw [hE]; exact rfl)))
 have f1 : (i + 1).toNat = i.toNat + 1 := by omega
 have hil : i.toNat < f.length := by omega
 have hst : (numF (f.take (i + 1).toNat) w : Int) = n + if ltF (sAt f i.toNat) w = true then 1 else 0 := by
  rw [f1, List.take_succ_eq_append_getElem hil, numF_snoc, i3, show sAt f i.toNat = f[i.toNat] from gD _ _ hil]; push_cast; split <;> rfl
 have hnl := numF_le (f.take i.toNat) w
 rw [List.length_take] at hnl
 have hx := hsz (sAt f i.toNat) (sAt_mem f i i1 hi)
 have hc : pc 27 [.v false [vS (gs (cellAt (sC f) i.toNat))], .v false [vS w]] (ret1 (.st (vB (ltS (gs (cellAt (sC f) i.toNat)) w)))) := c_Less24 (by rw [gs_sC]; exact hx) hw
 have hg := gs_sC f i.toNat
 have hlt := @ltF_iff (sAt f i.toNat) w
 have hls := @ltS_iff (sAt f i.toNat) w
 have hok := ok_sC hil
 generalize sAt f i.toNat = x at *
 have y1 : x.size < w.size → (numF (f.take (i + 1).toNat) w : Int) = n + 1 := fun h => by rw [hst, if_pos (hlt.2 (.inl h))]
 have y2 : x.size = w.size → ltS x w = true → (numF (f.take (i + 1).toNat) w : Int) = n + 1 := fun h k => by rw [hst, if_pos (hlt.2 (.inr ⟨h, hls.1 k⟩))]
 have y3 : ¬ x.size < w.size → ¬ x.size = w.size → (numF (f.take (i + 1).toNat) w : Int) = n := fun h k => by rw [hst, if_neg (fun q => by rcases hlt.1 q with q | q <;> omega)]; omega
 have y4 : x.size = w.size → ltS x w = false → (numF (f.take (i + 1).toNat) w : Int) = n := fun h k => by
  rw [hst, if_neg (fun q => ?_)]
  ·omega
  ·rcases hlt.1 q with q | q
   ·omega
   ·rw [hls.2 q.2] at k; cases k
 clear hst hlt hls
 generalize y_ltS : @ltS = x_ltS at *
 generalize y_hasS : @hasS = x_hasS at *
 generalize y_strsOf : @strsOf = x_strsOf at *
 generalize y_sC : @sC = x_sC at *
 generalize y_nS : @nS = x_nS at *
 (repeat' first | ((first | with_reducible refine tr_cut (fun h => ?_) (fun h => ?_) | refine aw_condj (by cbv) (fun h => ?_) (fun h => ?_)) <;> (try simp (disch := omega) only [hj, std, cmpI, cmpB, satB, Bool.not_eq_true, Bool.not_eq_false, decide_eq_true_eq, decide_eq_false_iff_not, beq_iff_eq, bne_iff_ne, bne_eq_false_iff_eq, beq_eq_false_iff_ne, ne_eq, reduceCtorEq, not_true_eq_false, not_false_eq_true, pl0, if_true, cmpS_eq, cmpS_neq, Bool.not_eq_eq_eq_not, Bool.not_true, Bool.not_false, Bool.not_eq_true', hg, Int.ofNat_eq_natCast, add64, sub64] at h) <;> (try (exfalso; omega))) | (with_reducible refine tr_alt (fun h => ?_) ?_ <;> (try (exfalso; omega))) | (with_reducible first | refine tr_ob ?_ ?_ | refine tr_done ?_) | (refine aw_tr hj tok (bookP24 x_ltS x_hasS x_strsOf) (by cbv) ?_) | (refine aw_seq fun K hK => ?_) | (refine aw_tr1 hj tok (bookP24 x_ltS x_hasS x_strsOf) (by cbv) ?_) | (refine aw_skip ?_) | (refine aw_block ?_) | (refine aw_exit ?_) | (refine aw_ret ⟨.inr rfl, ret_okj hj (by cbv) ?_ ?_⟩) | (refine aw_ret ?_) | (with_reducible first | refine th_n ?_ | refine th_r ?_ | refine th_x ?_ | refine blk_n ?_ | refine blk_r ?_ | refine blk_x ?_ | refine blk_y rfl ?_) | (refine ⟨.inr rfl, ret_okj hj (by cbv) ?_ ?_⟩) | (refine ⟨.inl rfl, ret_okj hj (by cbv) ?_ ?_⟩) | (with_reducible first | refine ⟨(_, _), by cbv, ?_, ?_⟩ | refine ⟨_, by cbv, ?_, ?_⟩) | (with_reducible apply_assumption -symm -exfalso only [*]))
 all_goals ((try subst y_ltS); (try subst y_hasS); (try subst y_strsOf); (try subst y_sC); (try subst y_nS))
 all_goals (try (repeat' first | with_reducible exact obl0 | with_reducible refine obl1 ?_ ?_))
 all_goals (try first | with_reducible exact True.intro | ((first | refine ob_pc hj ?_ | refine ob_pcn hj ?_); (try rw [hj]); first | exact hc) | ((first | refine ob_le hj ?_ | refine ob_lei hj ?_ | refine ob_inb hj ?_ | refine ob_pos hj ?_ | refine ob_ne0 hj ?_ | refine ob_eqb hj ?_); (first | rfl | first | omega | (simp only [hj, std]; split <;> omega) | (simp (disch := omega) only [hj, std, cmpI, cmpB, satB, add64, sub64, ite0, pl0, pl2, pl3, sb0, if_true, if_false, eq_self, sC_len, hg] <;> omega) | (simp (disch := omega) [hj, std, cmpI, cmpB, satB, add64, sub64, ite0, pl0, pl2, pl3, sb0, if_true, if_false, eq_self, sC_len, hg] <;> omega))) | ((refine ob_ok hj ?_; simp only [hj, std, ite0]; exact hok)) | ((simp (disch := omega) only [hj, std, add64]; first | omega | exact ⟨by omega, by omega, (y1 (by omega)).symm⟩ | exact ⟨by omega, by omega, (y2 (by omega) (by assumption)).symm⟩ | exact ⟨by omega, by omega, (y3 (by omega) (by omega)).symm⟩ | exact ⟨by omega, by omega, (y4 (by omega) (by assumption)).symm⟩)))
end Go.Proofs.Ytcpcghnpoekhpaa.A
/- TrieStates: the law's walk. -/
set_option linter.unusedSimpArgs false
set_option linter.unusedVariables false
set_option maxRecDepth 100000
set_option maxHeartbeats 4000000
namespace Go.Proofs.Ytcpcghnpoekhpaa.A
open Go
set_option linter.unusedVariables false
def nuT24 (cs : List C) (w : ByteArray) : Int := numF (strsOf cs) w
def bookTS (x_feQ24 : List C → Bool) (x_mkC24 : List C → List C) (x_mkN24 : List C → Nat) (x_frC24 : List C → List C) (x_frN24 : List C → Nat) (x_rlT24 : List C → ByteArray → Int) (x_nuT24 : List C → ByteArray → Int) : Book := fun f xs => match f, xs with
 | 7, [] => some (ret1 (.st (vB true)), [])
 | 6, [.v false [.sl _ cs]] => some (ret1 (.st (vB (x_feQ24 cs))), [])
 | 8, [.v false [.sl _ cs]] => some (ret1 (.tree shO (.sl (x_mkN24 cs) (x_mkC24 cs)) none), [])
 | 9, [.v false [.sl _ cs]] => some (ret1 (.st (.sl (x_frN24 cs) (x_frC24 cs))), [])
 | 14, [.v false [.sl _ cs], .v false [.val (.string w)]] => some (ret1 (.st (vI (x_nuT24 cs w))), [])
 | 13, [.v false [.sl _ cs], .v false [.val (.string w)]] => some (ret1 (.st (vI (x_rlT24 cs w))), [])
 | _, _ => none
theorem kids_of (l : List Rw) (b : ByteArray) : chilG b 0 (gsR l) = ((fronts l).filter (kidB b)).map fun x => (la x, (numF (fronts l) x : Int)) := chil_fronts l b
theorem st_of {l : List Rw} (hr : ∀ x ∈ l, 0 ≤ x.2.2) {b : ByteArray} (hb : b ∈ fronts l) : ∃ k : Nat, k < (trM l).length ∧ (numF (fronts l) b : Int) = k ∧ mAt (trM l) k = (ruleL l b, ((fronts l).filter (kidB b)).map fun x => (la x, (numF (fronts l) x : Int))) := by
 have hg := (mem_fronts l b).1 hb
 obtain ⟨k, hk, e⟩ := List.getElem_of_mem hg
 refine ⟨k, by rw [treeY_len]; exact hk, ?_, ?_⟩
 ·rw [numF_eq l b hg, ← e, numG_get (FG_gsR l) hk]
 ·rw [treeY_get _ _ hk, e, outY_rule l b hr, kids_of]
theorem pc_TrieStates (l : List Rw) (hl : l.length ≤ 4398046510976) : PC Try.prog T 4 [.v false [.sl (nRw l) (rwC l)]] (ret1 (.st (vB true))) [] := by
 have cW := c_aw24
 have cF := c_few24 hl
 have eF : feQ24 (rwC l) = fewR l := by unfold feQ24; rw [rwsOfC_rwC]
 have n1 := nRw_eq l
 refine pc_of tok Try.func4 rfl (by rfl) ?_
 obtain ⟨j, hj⟩ : ∃ j : J, j = std Try.prog T := ⟨_, rfl⟩
 have hm : Try.prog.follows .mixedOrders = true := by kernel_rfl
 rcases Bool.eq_false_or_eq_true (fewR l) with hf | hf
 all_goals rw [hf] at eF
 rotate_left
 ·generalize y_feQ24 : @feQ24 = x_feQ24 at *
  generalize y_mkC24 : @mkC24 = x_mkC24 at *
  generalize y_mkN24 : @mkN24 = x_mkN24 at *
  generalize y_frC24 : @frC24 = x_frC24 at *
  generalize y_frN24 : @frN24 = x_frN24 at *
  generalize y_rlT24 : @rlT24 = x_rlT24 at *
  generalize y_nuT24 : @nuT24 = x_nuT24 at *
  generalize y_sC : @sC = x_sC at *
  generalize y_nS : @nS = x_nS at *
  generalize y_eC : @eC = x_eC at *
  generalize y_nE : @nE = x_nE at *
  generalize y_mC : @mC = x_mC at *
  generalize y_nM : @nM = x_nM at *
  generalize y_rwC : @rwC = x_rwC at *
  generalize y_nRw : @nRw = x_nRw at *
  (repeat' first | ((first | with_reducible refine tr_cut (fun h => ?_) (fun h => ?_) | refine aw_condj (by cbv) (fun h => ?_) (fun h => ?_)) <;> (try simp (disch := omega) only [hj, std, cmpI, cmpB, satB, Bool.not_eq_true, Bool.not_eq_false, decide_eq_true_eq, decide_eq_false_iff_not, beq_iff_eq, bne_iff_ne, bne_eq_false_iff_eq, beq_eq_false_iff_ne, ne_eq, reduceCtorEq, not_true_eq_false, not_false_eq_true, pl0, if_true, cmpS_eq, cmpS_neq, Bool.not_eq_eq_eq_not, Bool.not_true, Bool.not_false, Bool.not_eq_true', eF, add64, sub64] at h) <;> (try (exfalso; omega))) | (with_reducible refine tr_alt (fun h => ?_) ?_ <;> (try (exfalso; omega))) | (with_reducible first | refine tr_ob ?_ ?_ | refine tr_done ?_) | (refine aw_tr hj tok (bookTS x_feQ24 x_mkC24 x_mkN24 x_frC24 x_frN24 x_rlT24 x_nuT24) (by cbv) ?_) | (refine aw_seq fun K hK => ?_) | (refine aw_tr1 hj tok (bookTS x_feQ24 x_mkC24 x_mkN24 x_frC24 x_frN24 x_rlT24 x_nuT24) (by cbv) ?_) | (refine aw_skip ?_) | (refine aw_block ?_) | (refine aw_exit ?_) | (refine aw_ret ⟨.inr rfl, ret_okj hj (by cbv) ?_ ?_⟩) | (refine aw_ret ?_) | (with_reducible first | refine th_n ?_ | refine th_r ?_ | refine th_x ?_ | refine blk_n ?_ | refine blk_r ?_ | refine blk_x ?_ | refine blk_y rfl ?_) | (refine ⟨.inr rfl, ret_okj hj (by cbv) ?_ ?_⟩) | (refine ⟨.inl rfl, ret_okj hj (by cbv) ?_ ?_⟩) | (with_reducible first | refine ⟨(_, _, _, _, _), by cbv, ?_, ?_⟩ | refine ⟨_, by cbv, ?_, ?_⟩) | (with_reducible apply_assumption -symm -exfalso only [*]))
  all_goals ((try subst y_feQ24); (try subst y_mkC24); (try subst y_mkN24); (try subst y_frC24); (try subst y_frN24); (try subst y_rlT24); (try subst y_nuT24); (try subst y_sC); (try subst y_nS); (try subst y_eC); (try subst y_nE); (try subst y_mC); (try subst y_nM); (try subst y_rwC); (try subst y_nRw))
  all_goals (try (repeat' first | with_reducible exact obl0 | (with_reducible refine obl1 ?_ ?_)))
  all_goals (try first | with_reducible exact True.intro | ((first | refine ob_pc hj ?_ | refine ob_pcn hj ?_); (try rw [hj]); first | exact cF | exact cW) | ((first | refine ob_le hj ?_ | refine ob_lei hj ?_ | refine ob_inb hj ?_ | refine ob_pos hj ?_ | refine ob_ne0 hj ?_ | refine ob_eqb hj ?_); (first | rfl | first | omega | (simp only [hj, std]; split <;> omega) | (simp (disch := omega) only [hj, std, cmpI, cmpB, satB, add64, sub64, ite0, pl0, pl2, pl3, sb0, if_true, if_false, eq_self] <;> omega) | (simp (disch := omega) [hj, std, cmpI, cmpB, satB, add64, sub64, ite0, pl0, pl2, pl3, sb0, if_true, if_false, eq_self] <;> omega))) | (exact rfl))
 obtain ⟨hl30, hw, hr⟩ := few_fit hf
 have hw9 : ∀ x ∈ l, x.2.1.size ≤ 100 := fun x hx => by have := hw x hx; omega
 obtain ⟨z1, z2⟩ := trM_sz hl30 hw
 have cM := c_mk24 (by omega) hw9
 have cFr := c_fr24 (by omega) hw9
 have eM : mkC24 (rwC l) = mC (trM l) := by unfold mkC24; rw [rwsOfC_rwC]
 have eN : mkN24 (rwC l) = nM (trM l) := by unfold mkN24; rw [rwsOfC_rwC]
 have eFC : frC24 (rwC l) = sC (fronts l) := by unfold frC24; rw [rwsOfC_rwC]
 have eFN : frN24 (rwC l) = nS (fronts l) := by unfold frN24; rw [rwsOfC_rwC]
 have hnn : mkN24 (rwC l) = frN24 (rwC l) := by rw [eN, eFN, nM_eq, treeY_len, nS_eq, fronts_len]
 have hfz := fronts_sz hw
 have hfl0 : (fronts l).length = (trM l).length := by rw [fronts_len, treeY_len]
 have eRl : ∀ x : ByteArray, rlT24 (rwC l) x = ruleL l x := fun x => by unfold rlT24; rw [rwsOfC_rwC]
 have cL := fun x : ByteArray => c_rl24 (l := l) x (by omega)
 have cU : ∀ x : ByteArray, x.size ≤ 100 → pc 14 [.v false [.sl (frN24 (rwC l)) (frC24 (rwC l))], .v false [vS x]] (ret1 (.st (vI (nuT24 (frC24 (rwC l)) x)))) := fun x hx => ⟨enters Try.func14 (by kernel_rfl) (by kernel_rfl), by unfold nuT24; rw [eFC, eFN, strsOf_sC]; exact pc_number24 (fronts l) x (by rw [hfl0]; omega) (fun s hs => by have := hfz s hs; omega) hx⟩
 have eU : ∀ x : ByteArray, nuT24 (frC24 (rwC l)) x = numF (fronts l) x := fun x => by unfold nuT24; rw [eFC, strsOf_sC]
 have hso := fun b (hb : b ∈ fronts l) => st_of (l := l) hr hb
 have hfl : (frC24 (rwC l)).length = frN24 (rwC l) := by rw [eFC, eFN, sC_len]
 have hml : (mkC24 (rwC l)).length = mkN24 (rwC l) * 2 := by rw [eM, eN, mC_len]
 have hma : ∀ k, k < (trM l).length → cellAt (mkC24 (rwC l)) (k * 2) = vI (mAt (trM l) k).1 ∧ cellAt (mkC24 (rwC l)) (k * 2 + 1) = .sl (nE (mAt (trM l) k).2) (eC (mAt (trM l) k).2) := fun k hk => by rw [eM]; exact mC_at _ k hk
 have hmn : mkN24 (rwC l) = (trM l).length := by rw [eN, nM_eq]
 have hnf : frN24 (rwC l) ≤ 211 := by rw [← hnn, hmn]; exact z1
 have hfat : ∀ i : Nat, i < frN24 (rwC l) → cellAt (frC24 (rwC l)) i = vS (sAt (fronts l) i) ∧ sAt (fronts l) i ∈ fronts l ∧ (sAt (fronts l) i).size ≤ 6 := fun i hi => by
  rw [eFN, nS_eq] at hi
  have e9 : sAt (fronts l) i = (fronts l)[i] := gD _ _ hi
  refine ⟨?_, by rw [e9]; exact List.getElem_mem hi, by rw [e9]; exact hfz _ (List.getElem_mem hi)⟩
  rw [eFC]
  unfold sC
  rw [map_at, List.getElem?_eq_getElem hi, e9]
 have hfn : frN24 (rwC l) = (fronts l).length := by rw [eFN, nS_eq]
 clear eM eN eFC eFN
 generalize y_feQ24 : @feQ24 = x_feQ24 at *
 generalize y_mkC24 : @mkC24 = x_mkC24 at *
 generalize y_mkN24 : @mkN24 = x_mkN24 at *
 generalize y_frC24 : @frC24 = x_frC24 at *
 generalize y_frN24 : @frN24 = x_frN24 at *
 generalize y_rlT24 : @rlT24 = x_rlT24 at *
 generalize y_nuT24 : @nuT24 = x_nuT24 at *
 generalize y_sC : @sC = x_sC at *
 generalize y_nS : @nS = x_nS at *
 generalize y_eC : @eC = x_eC at *
 generalize y_nE : @nE = x_nE at *
 generalize y_mC : @mC = x_mC at *
 generalize y_nM : @nM = x_nM at *
 generalize y_rwC : @rwC = x_rwC at *
 generalize y_nRw : @nRw = x_nRw at *
 (repeat' first | ((first | with_reducible refine tr_cut (fun h => ?_) (fun h => ?_) | refine aw_condj (by cbv) (fun h => ?_) (fun h => ?_)) <;> (try simp (disch := omega) only [hj, std, cmpI, cmpB, satB, Bool.not_eq_true, Bool.not_eq_false, decide_eq_true_eq, decide_eq_false_iff_not, beq_iff_eq, bne_iff_ne, bne_eq_false_iff_eq, beq_eq_false_iff_ne, ne_eq, reduceCtorEq, not_true_eq_false, not_false_eq_true, pl0, if_true, cmpS_eq, cmpS_neq, Bool.not_eq_eq_eq_not, Bool.not_true, Bool.not_false, Bool.not_eq_true', eF, hnn, add64, sub64] at h) <;> (try (exfalso; omega))) | (with_reducible refine tr_alt (fun h => ?_) ?_ <;> (try (exfalso; omega))) | (with_reducible first | refine tr_ob ?_ ?_ | refine tr_done ?_) | (refine aw_tr hj tok (bookTS x_feQ24 x_mkC24 x_mkN24 x_frC24 x_frN24 x_rlT24 x_nuT24) (by cbv) ?_) | (refine aw_seq fun K hK => ?_) | (refine aw_tr1 hj tok (bookTS x_feQ24 x_mkC24 x_mkN24 x_frC24 x_frN24 x_rlT24 x_nuT24) (by cbv) ?_) | (refine aw_skip ?_) | (refine aw_block ?_) | (refine aw_exit ?_) | (refine aw_ret ⟨.inr rfl, ret_okj hj (by cbv) ?_ ?_⟩) | (refine aw_ret ?_) | (with_reducible first | refine th_n ?_ | refine th_r ?_ | refine th_x ?_ | refine blk_n ?_ | refine blk_r ?_ | refine blk_x ?_ | refine blk_y rfl ?_) | (refine ⟨.inr rfl, ret_okj hj (by cbv) ?_ ?_⟩) | (refine ⟨.inl rfl, ret_okj hj (by cbv) ?_ ?_⟩) | (with_reducible first | refine ⟨(_, _, _, _, _), by cbv, ?_, ?_⟩ | refine ⟨_, by cbv, ?_, ?_⟩) | (with_reducible apply_assumption -symm -exfalso only [*]))
 all_goals ((try subst y_feQ24); (try subst y_mkC24); (try subst y_mkN24); (try subst y_frC24); (try subst y_frN24); (try subst y_rlT24); (try subst y_nuT24); (try subst y_sC); (try subst y_nS); (try subst y_eC); (try subst y_nE); (try subst y_mC); (try subst y_nM); (try subst y_rwC); (try subst y_nRw))
 all_goals (try (repeat' first | with_reducible exact obl0 | (with_reducible refine obl1 ?_ ?_)))
 all_goals (try first | with_reducible exact True.intro | ((first | refine ob_pc hj ?_ | refine ob_pcn hj ?_); (try rw [hj]); first | exact cF | exact cW | exact cM | exact cFr) | ((first | refine ob_le hj ?_ | refine ob_lei hj ?_ | refine ob_inb hj ?_ | refine ob_pos hj ?_ | refine ob_ne0 hj ?_ | refine ob_eqb hj ?_); (first | rfl | first | omega | (simp only [hj, std]; split <;> omega) | (simp (disch := omega) only [hj, std, cmpI, cmpB, satB, add64, sub64, ite0, pl0, pl2, pl3, sb0, if_true, if_false, eq_self] <;> omega) | (simp (disch := omega) [hj, std, cmpI, cmpB, satB, add64, sub64, ite0, pl0, pl2, pl3, sb0, if_true, if_false, eq_self] <;> omega))) | (exact rfl))
 refine aw_lpj hj [(0, .keep), (3, .fz), (4, .keep), (5, .keep)] [] (fun (i : Int) => stOf 131 [(0, .one (.c (.sl (nRw l) (rwC l)))), (3, .one (.c (.sl (mkN24 (rwC l)) (mkC24 (rwC l))))), (4, .one (.c (.sl (frN24 (rwC l)) (frC24 (rwC l))))), (5, .one (.c (vI i)))] []) (fun (i : Int) => frN24 (rwC l) - i.toNat) (fun (i : Int) => 0 ≤ i ∧ i ≤ frN24 (rwC l)) (0) (by generalize @feQ24 = x_feQ24; generalize @mkC24 = x_mkC24; generalize @mkN24 = x_mkN24; generalize @frC24 = x_frC24; generalize @frN24 = x_frN24; generalize @rlT24 = x_rlT24; generalize @nuT24 = x_nuT24; generalize @sC = x_sC; generalize @nS = x_nS; generalize @eC = x_eC; generalize @nE = x_nE; generalize @mC = x_mC; generalize @nM = x_nM; generalize @rwC = x_rwC; generalize @nRw = x_nRw; cbv) ?_ (fun i hI => ?_)
 ·exact ⟨by omega, by omega⟩
 obtain ⟨i1, i2⟩ := hI
 rcases Decidable.em (i < (frN24 (rwC l) : Int)) with hi | hi
 rotate_left
 ·generalize y_feQ24 : @feQ24 = x_feQ24 at *
  generalize y_mkC24 : @mkC24 = x_mkC24 at *
  generalize y_mkN24 : @mkN24 = x_mkN24 at *
  generalize y_frC24 : @frC24 = x_frC24 at *
  generalize y_frN24 : @frN24 = x_frN24 at *
  generalize y_rlT24 : @rlT24 = x_rlT24 at *
  generalize y_nuT24 : @nuT24 = x_nuT24 at *
  generalize y_sC : @sC = x_sC at *
  generalize y_nS : @nS = x_nS at *
  generalize y_eC : @eC = x_eC at *
  generalize y_nE : @nE = x_nE at *
  generalize y_mC : @mC = x_mC at *
  generalize y_nM : @nM = x_nM at *
  generalize y_rwC : @rwC = x_rwC at *
  generalize y_nRw : @nRw = x_nRw at *
  (repeat' first | ((first | with_reducible refine tr_cut (fun h => ?_) (fun h => ?_) | refine aw_condj (by cbv) (fun h => ?_) (fun h => ?_)) <;> (try simp (disch := omega) only [hj, std, cmpI, cmpB, satB, Bool.not_eq_true, Bool.not_eq_false, decide_eq_true_eq, decide_eq_false_iff_not, beq_iff_eq, bne_iff_ne, bne_eq_false_iff_eq, beq_eq_false_iff_ne, ne_eq, reduceCtorEq, not_true_eq_false, not_false_eq_true, pl0, if_true, cmpS_eq, cmpS_neq, Bool.not_eq_eq_eq_not, Bool.not_true, Bool.not_false, Bool.not_eq_true', eF, hnn, add64, sub64] at h) <;> (try (exfalso; omega))) | (with_reducible refine tr_alt (fun h => ?_) ?_ <;> (try (exfalso; omega))) | (with_reducible first | refine tr_ob ?_ ?_ | refine tr_done ?_) | (refine aw_tr hj tok (bookTS x_feQ24 x_mkC24 x_mkN24 x_frC24 x_frN24 x_rlT24 x_nuT24) (by cbv) ?_) | (refine aw_seq fun K hK => ?_) | (refine aw_tr1 hj tok (bookTS x_feQ24 x_mkC24 x_mkN24 x_frC24 x_frN24 x_rlT24 x_nuT24) (by cbv) ?_) | (refine aw_skip ?_) | (refine aw_block ?_) | (refine aw_exit ?_) | (refine aw_ret ⟨.inr rfl, ret_okj hj (by cbv) ?_ ?_⟩) | (refine aw_ret ?_) | (with_reducible first | refine th_n ?_ | refine th_r ?_ | refine th_x ?_ | refine blk_n ?_ | refine blk_r ?_ | refine blk_x ?_ | refine blk_y rfl ?_) | (refine ⟨.inr rfl, ret_okj hj (by cbv) ?_ ?_⟩) | (refine ⟨.inl rfl, ret_okj hj (by cbv) ?_ ?_⟩) | (with_reducible first | refine ⟨(_, _, _, _, _), by cbv, ?_, ?_⟩ | refine ⟨_, by cbv, ?_, ?_⟩) | (with_reducible apply_assumption -symm -exfalso only [*]))
  all_goals ((try subst y_feQ24); (try subst y_mkC24); (try subst y_mkN24); (try subst y_frC24); (try subst y_frN24); (try subst y_rlT24); (try subst y_nuT24); (try subst y_sC); (try subst y_nS); (try subst y_eC); (try subst y_nE); (try subst y_mC); (try subst y_nM); (try subst y_rwC); (try subst y_nRw))
  all_goals (try (repeat' first | with_reducible exact obl0 | (with_reducible refine obl1 ?_ ?_)))
  all_goals (try first | with_reducible exact True.intro | ((first | refine ob_pc hj ?_ | refine ob_pcn hj ?_); (try rw [hj]); first | exact cW) | ((first | refine ob_le hj ?_ | refine ob_lei hj ?_ | refine ob_inb hj ?_ | refine ob_pos hj ?_ | refine ob_ne0 hj ?_ | refine ob_eqb hj ?_); (first | rfl | first | omega | (simp only [hj, std]; split <;> omega) | (simp (disch := omega) only [hj, std, cmpI, cmpB, satB, add64, sub64, ite0, pl0, pl2, pl3, sb0, if_true, if_false, eq_self] <;> omega) | (simp (disch := omega) [hj, std, cmpI, cmpB, satB, add64, sub64, ite0, pl0, pl2, pl3, sb0, if_true, if_false, eq_self] <;> omega))) | (exact rfl))
 obtain ⟨a1, a2, a3⟩ := hfat i.toNat (by omega)
 obtain ⟨q, q1, q2, q3⟩ := hso _ a2
 obtain ⟨m1, m2⟩ := hma q q1
 rw [q3] at m1 m2
 have gA : gs (cellAt (frC24 (rwC l)) i.toNat) = sAt (fronts l) i.toNat := by rw [a1]; rfl
 have eq9 : nuT24 (frC24 (rwC l)) (sAt (fronts l) i.toNat) = q := by rw [eU, q2]
 have eL9 : rlT24 (rwC l) (sAt (fronts l) i.toNat) = ruleL l (sAt (fronts l) i.toNat) := eRl _
 have hkid := fun {k : Nat} (hk : k < (fronts l).length) (h : kidB (sAt (fronts l) i.toNat) (fronts l)[k] = true) => kid_at (fronts l) (sAt (fronts l) i.toNat) hk h fun x => (la x, (numF (fronts l) x : Int))
 have hnot := fun {k : Nat} (hk : k < (fronts l).length) (h : kidB (sAt (fronts l) i.toNat) (fronts l)[k] = false) => kid_not (fronts l) (sAt (fronts l) i.toNat) hk h
 have hsA := fun {k : Nat} (hk : k < (fronts l).length) => (gD (fronts l) ByteArray.empty hk : sAt (fronts l) k = (fronts l)[k])
 have hall : ((fronts l).filter (kidB (sAt (fronts l) i.toNat))).length = (((fronts l).filter (kidB (sAt (fronts l) i.toNat))).map fun x => (la x, (numF (fronts l) x : Int))).length := (List.length_map _).symm
 generalize hes : ((fronts l).filter (kidB (sAt (fronts l) i.toNat))).map (fun x => (la x, (numF (fronts l) x : Int))) = es at *
 generalize hx : sAt (fronts l) i.toNat = x at *
 have hel : es.length ≤ 211 := by rw [← hall]; exact Nat.le_trans (List.length_filter_le _ _) (by omega)
 have hne := nE_eq es
 have hce := eC_len es
 have hea := eC_at es
 have cUx := cU x (by omega)
 have cLx := cL x
 generalize y_feQ24 : @feQ24 = x_feQ24 at *
 generalize y_mkC24 : @mkC24 = x_mkC24 at *
 generalize y_mkN24 : @mkN24 = x_mkN24 at *
 generalize y_frC24 : @frC24 = x_frC24 at *
 generalize y_frN24 : @frN24 = x_frN24 at *
 generalize y_rlT24 : @rlT24 = x_rlT24 at *
 generalize y_nuT24 : @nuT24 = x_nuT24 at *
 generalize y_sC : @sC = x_sC at *
 generalize y_nS : @nS = x_nS at *
 generalize y_eC : @eC = x_eC at *
 generalize y_nE : @nE = x_nE at *
 generalize y_mC : @mC = x_mC at *
 generalize y_nM : @nM = x_nM at *
 generalize y_rwC : @rwC = x_rwC at *
 generalize y_nRw : @nRw = x_nRw at *
 (repeat' first | ((first | with_reducible refine tr_cut (fun h => ?_) (fun h => ?_) | refine aw_condj (by cbv) (fun h => ?_) (fun h => ?_)) <;> (try simp (disch := omega) only [hj, std, cmpI, cmpB, satB, Bool.not_eq_true, Bool.not_eq_false, decide_eq_true_eq, decide_eq_false_iff_not, beq_iff_eq, bne_iff_ne, bne_eq_false_iff_eq, beq_eq_false_iff_ne, ne_eq, reduceCtorEq, not_true_eq_false, not_false_eq_true, pl0, if_true, cmpS_eq, cmpS_neq, Bool.not_eq_eq_eq_not, Bool.not_true, Bool.not_false, Bool.not_eq_true', eF, hnn, gA, eq9, add64, sub64] at h) <;> (try (exfalso; omega))) | (with_reducible refine tr_alt (fun h => ?_) ?_ <;> (try (exfalso; omega))) | (with_reducible first | refine tr_ob ?_ ?_ | refine tr_done ?_) | (refine aw_tr hj tok (bookTS x_feQ24 x_mkC24 x_mkN24 x_frC24 x_frN24 x_rlT24 x_nuT24) (by cbv) ?_) | (refine aw_seq fun K hK => ?_) | (refine aw_tr1 hj tok (bookTS x_feQ24 x_mkC24 x_mkN24 x_frC24 x_frN24 x_rlT24 x_nuT24) (by cbv) ?_) | (refine aw_skip ?_) | (refine aw_block ?_) | (refine aw_exit ?_) | (refine aw_ret ⟨.inr rfl, ret_okj hj (by cbv) ?_ ?_⟩) | (refine aw_ret ?_) | (with_reducible first | refine th_n ?_ | refine th_r ?_ | refine th_x ?_ | refine blk_n ?_ | refine blk_r ?_ | refine blk_x ?_ | refine blk_y rfl ?_) | (refine ⟨.inr rfl, ret_okj hj (by cbv) ?_ ?_⟩) | (refine ⟨.inl rfl, ret_okj hj (by cbv) ?_ ?_⟩) | (with_reducible first | refine ⟨(_, _, _, _, _), by cbv, ?_, ?_⟩ | refine ⟨_, by cbv, ?_, ?_⟩) | (with_reducible apply_assumption -symm -exfalso only [*]))
 all_goals ((try subst y_feQ24); (try subst y_mkC24); (try subst y_mkN24); (try subst y_frC24); (try subst y_frN24); (try subst y_rlT24); (try subst y_nuT24); (try subst y_sC); (try subst y_nS); (try subst y_eC); (try subst y_nE); (try subst y_mC); (try subst y_nM); (try subst y_rwC); (try subst y_nRw))
 all_goals (try (repeat' first | with_reducible exact obl0 | (with_reducible refine obl1 ?_ ?_)))
 all_goals (try first | with_reducible exact True.intro | ((first | refine ob_le hj ?_ | refine ob_lei hj ?_ | refine ob_inb hj ?_ | refine ob_pos hj ?_ | refine ob_ne0 hj ?_ | refine ob_eqb hj ?_); (first | rfl | first | omega | (simp only [hj, std]; split <;> omega) | (simp (disch := omega) only [hj, std, cmpI, cmpB, satB, add64, sub64, ite0, pl0, pl2, pl3, sb0, if_true, if_false, eq_self, hfl, hml, gA, eq9] <;> omega) | (simp (disch := omega) [hj, std, cmpI, cmpB, satB, add64, sub64, ite0, pl0, pl2, pl3, sb0, if_true, if_false, eq_self, hfl, hml, gA, eq9] <;> omega))) | ((refine ob_pc hj ?_; simp only [hj, std, gA]; exact cUx)) | ((refine ob_ok hj ?_; simp only [hj, std, gA, eq9, Int.toNat_natCast]; first | exact ⟨_, a1⟩ | exact ⟨_, m1⟩ | exact .inr ⟨_, _, m2⟩)))
 refine aw_lpj hj [(0, .keep), (3, .keep), (4, .keep), (5, .keep), (6, .keep), (7, .keep), (8, .keep)] [6] (fun (⟨k, n, o, kn, kc⟩ : Int × Int × Int × Nat × (List C)) => stOf 131 [(0, .one (.c (.sl (nRw l) (rwC l)))), (3, .one (.c (.sl (mkN24 (rwC l)) (mkC24 (rwC l))))), (4, .one (.c (.sl (frN24 (rwC l)) (frC24 (rwC l))))), (5, .one (.c (vI i))), (6, .one (.ptr 6 0)), (7, .one (.c (vI n))), (8, .one (.c (vI k)))] [(6, .box [.st (vI o), .st (.sl kn kc)])]) (fun (⟨k, n, o, kn, kc⟩ : Int × Int × Int × Nat × (List C)) => frN24 (rwC l) - k.toNat) (fun (⟨k, n, o, kn, kc⟩ : Int × Int × Int × Nat × (List C)) => 0 ≤ k ∧ k ≤ frN24 (rwC l) ∧ o = ruleL l x ∧ kn = nE es ∧ kc = eC es ∧ n = (((fronts l).take k.toNat).filter (kidB x)).length) ((0, 0, j.gi (j.cell (mkC24 (rwC l)) (j.mul (j.toNat (nuT24 (frC24 (rwC l)) (j.gs (j.cell (frC24 (rwC l)) (j.toNat i))))) 2)), j.gn (j.cell (mkC24 (rwC l)) (j.add (j.mul (j.toNat (nuT24 (frC24 (rwC l)) (j.gs (j.cell (frC24 (rwC l)) (j.toNat i))))) 2) 1)), j.gc (j.cell (mkC24 (rwC l)) (j.add (j.mul (j.toNat (nuT24 (frC24 (rwC l)) (j.gs (j.cell (frC24 (rwC l)) (j.toNat i))))) 2) 1)))) (by generalize @feQ24 = x_feQ24; generalize @mkC24 = x_mkC24; generalize @mkN24 = x_mkN24; generalize @frC24 = x_frC24; generalize @frN24 = x_frN24; generalize @rlT24 = x_rlT24; generalize @nuT24 = x_nuT24; generalize @sC = x_sC; generalize @nS = x_nS; generalize @eC = x_eC; generalize @nE = x_nE; generalize @mC = x_mC; generalize @nM = x_nM; generalize @rwC = x_rwC; generalize @nRw = x_nRw; cbv) ?_ (fun ⟨k, n, o, kn, kc⟩ hI => ?_)
 ·simp only [hj, std, gA, eq9, Int.toNat_natCast, ite0, m1, m2]
  exact ⟨by omega, by omega, rfl, rfl, rfl, rfl⟩
 obtain ⟨k1, k2, o1, o2, o3, o4⟩ := hI
 rcases Decidable.em (k < (frN24 (rwC l) : Int)) with hk | hk
 rotate_left
 ·have hn9 : n = nE es := by rw [o4, List.take_of_length_le (by omega), hall, hne]
  generalize y_feQ24 : @feQ24 = x_feQ24 at *
  generalize y_mkC24 : @mkC24 = x_mkC24 at *
  generalize y_mkN24 : @mkN24 = x_mkN24 at *
  generalize y_frC24 : @frC24 = x_frC24 at *
  generalize y_frN24 : @frN24 = x_frN24 at *
  generalize y_rlT24 : @rlT24 = x_rlT24 at *
  generalize y_nuT24 : @nuT24 = x_nuT24 at *
  generalize y_sC : @sC = x_sC at *
  generalize y_nS : @nS = x_nS at *
  generalize y_eC : @eC = x_eC at *
  generalize y_nE : @nE = x_nE at *
  generalize y_mC : @mC = x_mC at *
  generalize y_nM : @nM = x_nM at *
  generalize y_rwC : @rwC = x_rwC at *
  generalize y_nRw : @nRw = x_nRw at *
  (repeat' first | ((first | with_reducible refine tr_cut (fun h => ?_) (fun h => ?_) | refine aw_condj (by cbv) (fun h => ?_) (fun h => ?_)) <;> (try simp (disch := omega) only [hj, std, cmpI, cmpB, satB, Bool.not_eq_true, Bool.not_eq_false, decide_eq_true_eq, decide_eq_false_iff_not, beq_iff_eq, bne_iff_ne, bne_eq_false_iff_eq, beq_eq_false_iff_ne, ne_eq, reduceCtorEq, not_true_eq_false, not_false_eq_true, pl0, if_true, cmpS_eq, cmpS_neq, Bool.not_eq_eq_eq_not, Bool.not_true, Bool.not_false, Bool.not_eq_true', eF, hnn, gA, eL9, ite0, Int.ofNat_eq_natCast, add64, sub64] at h) <;> (try (exfalso; omega))) | (with_reducible refine tr_alt (fun h => ?_) ?_ <;> (try (exfalso; omega))) | (with_reducible first | refine tr_ob ?_ ?_ | refine tr_done ?_) | (refine aw_dr1 (id := 19) hj tok hm (bookTS x_feQ24 x_mkC24 x_mkN24 x_frC24 x_frN24 x_rlT24 x_nuT24) true [(0, false), (1, true), (2, true), (3, true), (4, true), (5, true), (6, false), (7, false), (8, false), (9, false), (10, true), (11, true), (12, true), (13, true), (14, true), (15, true)] (by kernel_rfl) (by cbv) ?_) | (refine aw_dr (id := 19) hj tok hm (bookTS x_feQ24 x_mkC24 x_mkN24 x_frC24 x_frN24 x_rlT24 x_nuT24) true [(0, false), (1, true), (2, true), (3, true), (4, true), (5, true), (6, false), (7, false), (8, false), (9, false), (10, true), (11, true), (12, true), (13, true), (14, true), (15, true)] (by kernel_rfl) (by cbv) ?_) | (refine aw_tr hj tok (bookTS x_feQ24 x_mkC24 x_mkN24 x_frC24 x_frN24 x_rlT24 x_nuT24) (by cbv) ?_) | (refine aw_seq fun K hK => ?_) | (refine aw_tr1 hj tok (bookTS x_feQ24 x_mkC24 x_mkN24 x_frC24 x_frN24 x_rlT24 x_nuT24) (by cbv) ?_) | (refine aw_skip ?_) | (refine aw_block ?_) | (refine aw_exit ?_) | (refine aw_ret ⟨.inr rfl, ret_okj hj (by cbv) ?_ ?_⟩) | (refine aw_ret ?_) | (with_reducible first | refine th_n ?_ | refine th_r ?_ | refine th_x ?_ | refine blk_n ?_ | refine blk_r ?_ | refine blk_x ?_ | refine blk_y rfl ?_) | (refine ⟨.inr rfl, ret_okj hj (by cbv) ?_ ?_⟩) | (refine ⟨.inl rfl, ret_okj hj (by cbv) ?_ ?_⟩) | (with_reducible first | refine ⟨(_, _, _, _, _), by cbv, ?_, ?_⟩ | refine ⟨_, by cbv, ?_, ?_⟩) | (with_reducible apply_assumption -symm -exfalso only [*]))
  all_goals ((try subst y_feQ24); (try subst y_mkC24); (try subst y_mkN24); (try subst y_frC24); (try subst y_frN24); (try subst y_rlT24); (try subst y_nuT24); (try subst y_sC); (try subst y_nS); (try subst y_eC); (try subst y_nE); (try subst y_mC); (try subst y_nM); (try subst y_rwC); (try subst y_nRw))
  all_goals (try (repeat' first | with_reducible exact obl0 | (with_reducible refine obl1 ?_ ?_)))
  all_goals (try first | with_reducible exact True.intro | ((first | refine ob_le hj ?_ | refine ob_lei hj ?_ | refine ob_inb hj ?_ | refine ob_pos hj ?_ | refine ob_ne0 hj ?_ | refine ob_eqb hj ?_); (first | rfl | first | omega | (simp only [hj, std]; split <;> omega) | (simp (disch := omega) only [hj, std, cmpI, cmpB, satB, add64, sub64, ite0, pl0, pl2, pl3, sb0, if_true, if_false, eq_self, hfl, gA] <;> omega) | (simp (disch := omega) [hj, std, cmpI, cmpB, satB, add64, sub64, ite0, pl0, pl2, pl3, sb0, if_true, if_false, eq_self, hfl, gA] <;> omega))) | ((refine ob_pc hj ?_; simp only [hj, std, gA]; exact cLx)) | ((refine ob_ok hj ?_; simp only [hj, std, gA]; exact ⟨_, a1⟩)) | ((exact absurd o1 (by assumption))) | ((exfalso; omega)) | ((simp (disch := omega) only [hj, std, add64]; first | omega | exact ⟨by omega, by omega⟩)))
 obtain ⟨b1, b2, b3⟩ := hfat k.toNat (by omega)
 have hkl : k.toNat < (fronts l).length := by omega
 have hkid := @hkid k.toNat hkl
 have hnot := @hnot k.toNat hkl
 have hsk : sAt (fronts l) k.toNat = (fronts l)[k.toNat] := hsA hkl
 rw [← hsk] at hkid hnot
 have gB : gs (cellAt (frC24 (rwC l)) k.toNat) = sAt (fronts l) k.toNat := by rw [b1]; rfl
 have cUy := cU (sAt (fronts l) k.toNat) (by omega)
 have eUy : nuT24 (frC24 (rwC l)) (sAt (fronts l) k.toNat) = numF (fronts l) (sAt (fronts l) k.toNat) := eU _
 have f1 : (k + 1).toNat = k.toNat + 1 := by omega
 have hkb : kidB x (sAt (fronts l) k.toNat) = decide ((sAt (fronts l) k.toNat).size = x.size + 1 ∧ (sAt (fronts l) k.toNat).extract 0 x.size = x) := rfl
 have hla : (sAt (fronts l) k.toNat).size = x.size + 1 → la (sAt (fronts l) k.toNat) = (bt (sAt (fronts l) k.toNat) x.size : Nat) := fun h => by unfold la; rw [h, Nat.add_sub_cancel]
 clear hfat hso hma hsA
 generalize numF (fronts l) (sAt (fronts l) k.toNat) = nu at *
 generalize sAt (fronts l) k.toNat = y at *
 have hbw := bt_lt y x.size
 have hwr : IntKind.wrap .i64 (bt y x.size : Int) = (bt y x.size : Int) := wrap64 (by omega) (by omega)
 rcases Bool.eq_false_or_eq_true (kidB x y) with hq | hq
 ·obtain ⟨t1, t2, t3⟩ := hkid hq
  rw [hkb, decide_eq_true_eq] at hq
  obtain ⟨p1, p2⟩ := hq
  rw [hla p1] at t2
  have hnn9 : n.toNat = (((fronts l).take k.toNat).filter (kidB x)).length := by omega
  rw [← hnn9] at t1 t2
  obtain ⟨v0, v1⟩ := hea n.toNat t1
  rw [t2] at v0 v1
  have u1 : gi (cellAt kc (n.toNat * 2)) = (bt y x.size : Nat) := by rw [o3, v0]; rfl
  have u2 : gi (cellAt kc (n.toNat * 2 + 1)) = nu := by rw [o3, v1]; rfl
  have hst : ((((fronts l).take (k + 1).toNat).filter (kidB x)).length : Int) = n + 1 := by rw [f1, t3, List.length_append, List.length_singleton, o4]; push_cast; rfl
  have hkl2 : kc.length = kn * 2 := by rw [o3, o2]; exact hce
  clear hkid hnot hkb hla
  generalize y_feQ24 : @feQ24 = x_feQ24 at *
  generalize y_mkC24 : @mkC24 = x_mkC24 at *
  generalize y_mkN24 : @mkN24 = x_mkN24 at *
  generalize y_frC24 : @frC24 = x_frC24 at *
  generalize y_frN24 : @frN24 = x_frN24 at *
  generalize y_rlT24 : @rlT24 = x_rlT24 at *
  generalize y_nuT24 : @nuT24 = x_nuT24 at *
  generalize y_sC : @sC = x_sC at *
  generalize y_nS : @nS = x_nS at *
  generalize y_eC : @eC = x_eC at *
  generalize y_nE : @nE = x_nE at *
  generalize y_mC : @mC = x_mC at *
  generalize y_nM : @nM = x_nM at *
  generalize y_rwC : @rwC = x_rwC at *
  generalize y_nRw : @nRw = x_nRw at *
  (repeat' first | ((first | with_reducible refine tr_cut (fun h => ?_) (fun h => ?_) | refine aw_condj (by cbv) (fun h => ?_) (fun h => ?_)) <;> (try simp (disch := omega) only [hj, std, cmpI, cmpB, satB, Bool.not_eq_true, Bool.not_eq_false, decide_eq_true_eq, decide_eq_false_iff_not, beq_iff_eq, bne_iff_ne, bne_eq_false_iff_eq, beq_eq_false_iff_ne, ne_eq, reduceCtorEq, not_true_eq_false, not_false_eq_true, pl0, if_true, cmpS_eq, cmpS_neq, Bool.not_eq_eq_eq_not, Bool.not_true, Bool.not_false, Bool.not_eq_true', eF, hnn, gA, gB, hwr, ite0, Int.ofNat_eq_natCast, Int.toNat_natCast, u1, u2, eUy, p2, add64, sub64] at h) <;> (try (exfalso; omega))) | (with_reducible refine tr_alt (fun h => ?_) ?_ <;> (try (exfalso; omega))) | (with_reducible first | refine tr_ob ?_ ?_ | refine tr_done ?_) | (refine aw_dr1 (id := 16) hj tok hm (bookTS x_feQ24 x_mkC24 x_mkN24 x_frC24 x_frN24 x_rlT24 x_nuT24) true [(0, false), (1, true), (2, true), (3, true), (4, true), (5, true), (6, false), (7, false), (8, false), (9, false), (10, false), (11, false), (12, false), (13, false), (14, false), (15, false), (16, false), (17, true), (18, true), (19, true), (20, true), (21, true), (22, true), (23, true), (24, true), (25, true), (26, false), (27, false), (28, false), (29, false), (30, false), (31, false), (32, false), (33, false), (34, true), (35, true), (36, true), (37, true), (38, true), (39, true)] (by kernel_rfl) (by cbv) ?_) | (refine aw_dr (id := 16) hj tok hm (bookTS x_feQ24 x_mkC24 x_mkN24 x_frC24 x_frN24 x_rlT24 x_nuT24) true [(0, false), (1, true), (2, true), (3, true), (4, true), (5, true), (6, false), (7, false), (8, false), (9, false), (10, false), (11, false), (12, false), (13, false), (14, false), (15, false), (16, false), (17, true), (18, true), (19, true), (20, true), (21, true), (22, true), (23, true), (24, true), (25, true), (26, false), (27, false), (28, false), (29, false), (30, false), (31, false), (32, false), (33, false), (34, true), (35, true), (36, true), (37, true), (38, true), (39, true)] (by kernel_rfl) (by cbv) ?_) | (refine aw_dr1 (id := 15) hj tok hm (bookTS x_feQ24 x_mkC24 x_mkN24 x_frC24 x_frN24 x_rlT24 x_nuT24) true [(0, false), (1, false), (2, false), (3, false), (4, false), (5, false), (6, true), (7, true), (8, true), (9, true), (10, true), (11, true), (12, true), (13, false), (14, false), (15, false), (16, false), (17, false), (18, false), (19, false), (20, false), (21, false), (22, false), (23, false), (24, true), (25, true), (26, true), (27, true), (28, true)] (by kernel_rfl) (by cbv) ?_) | (refine aw_dr (id := 15) hj tok hm (bookTS x_feQ24 x_mkC24 x_mkN24 x_frC24 x_frN24 x_rlT24 x_nuT24) true [(0, false), (1, false), (2, false), (3, false), (4, false), (5, false), (6, true), (7, true), (8, true), (9, true), (10, true), (11, true), (12, true), (13, false), (14, false), (15, false), (16, false), (17, false), (18, false), (19, false), (20, false), (21, false), (22, false), (23, false), (24, true), (25, true), (26, true), (27, true), (28, true)] (by kernel_rfl) (by cbv) ?_) | (refine aw_tr hj tok (bookTS x_feQ24 x_mkC24 x_mkN24 x_frC24 x_frN24 x_rlT24 x_nuT24) (by cbv) ?_) | (refine aw_seq fun K hK => ?_) | (refine aw_tr1 hj tok (bookTS x_feQ24 x_mkC24 x_mkN24 x_frC24 x_frN24 x_rlT24 x_nuT24) (by cbv) ?_) | (refine aw_skip ?_) | (refine aw_block ?_) | (refine aw_exit ?_) | (refine aw_ret ⟨.inr rfl, ret_okj hj (by cbv) ?_ ?_⟩) | (refine aw_ret ?_) | (with_reducible first | refine th_n ?_ | refine th_r ?_ | refine th_x ?_ | refine blk_n ?_ | refine blk_r ?_ | refine blk_x ?_ | refine blk_y rfl ?_) | (refine ⟨.inr rfl, ret_okj hj (by cbv) ?_ ?_⟩) | (refine ⟨.inl rfl, ret_okj hj (by cbv) ?_ ?_⟩) | (with_reducible first | refine ⟨(_, _, _, _, _), by cbv, ?_, ?_⟩ | refine ⟨_, by cbv, ?_, ?_⟩) | (with_reducible apply_assumption -symm -exfalso only [*]))
  all_goals ((try subst y_feQ24); (try subst y_mkC24); (try subst y_mkN24); (try subst y_frC24); (try subst y_frN24); (try subst y_rlT24); (try subst y_nuT24); (try subst y_sC); (try subst y_nS); (try subst y_eC); (try subst y_nE); (try subst y_mC); (try subst y_nM); (try subst y_rwC); (try subst y_nRw))
  all_goals (try (repeat' first | with_reducible exact obl0 | (with_reducible refine obl1 ?_ ?_)))
  all_goals (try first | with_reducible exact True.intro | ((first | refine ob_le hj ?_ | refine ob_lei hj ?_ | refine ob_inb hj ?_ | refine ob_pos hj ?_ | refine ob_ne0 hj ?_ | refine ob_eqb hj ?_); (first | rfl | first | omega | (simp only [hj, std]; split <;> omega) | (simp (disch := omega) only [hj, std, cmpI, cmpB, satB, add64, sub64, ite0, pl0, pl2, pl3, sb0, if_true, if_false, eq_self, hfl, hkl2, gA, gB] <;> omega) | (simp (disch := omega) [hj, std, cmpI, cmpB, satB, add64, sub64, ite0, pl0, pl2, pl3, sb0, if_true, if_false, eq_self, hfl, hkl2, gA, gB] <;> omega))) | ((refine ob_le hj ?_; simp only [hj, std, gA, gB, Int.ofNat_eq_natCast, Int.toNat_natCast, ite0]; omega)) | ((refine ob_lei hj ?_; simp only [hj, std, gA, gB, Int.ofNat_eq_natCast]; omega)) | ((refine ob_ok hj ?_; simp only [hj, std, gA, gB, ite0]; first | exact ⟨_, a1⟩ | exact ⟨_, b1⟩ | (rw [o3]; first | exact ⟨_, v0⟩ | exact ⟨_, v1⟩))) | ((refine ob_pc hj ?_; simp only [hj, std, gB]; exact cUy)) | ((simp (disch := omega) only [hj, std, add64]; first | omega | exact ⟨by omega, by omega, o1, o2, o3, hst.symm⟩)) | ((exfalso; omega)))
 ·have hst := hnot hq
  rw [hkb, decide_eq_false_iff_not] at hq
  have hst : ((((fronts l).take (k + 1).toNat).filter (kidB x)).length : Int) = n := by rw [f1, hst, o4]
  clear hkid hnot hkb hla
  generalize y_feQ24 : @feQ24 = x_feQ24 at *
  generalize y_mkC24 : @mkC24 = x_mkC24 at *
  generalize y_mkN24 : @mkN24 = x_mkN24 at *
  generalize y_frC24 : @frC24 = x_frC24 at *
  generalize y_frN24 : @frN24 = x_frN24 at *
  generalize y_rlT24 : @rlT24 = x_rlT24 at *
  generalize y_nuT24 : @nuT24 = x_nuT24 at *
  generalize y_sC : @sC = x_sC at *
  generalize y_nS : @nS = x_nS at *
  generalize y_eC : @eC = x_eC at *
  generalize y_nE : @nE = x_nE at *
  generalize y_mC : @mC = x_mC at *
  generalize y_nM : @nM = x_nM at *
  generalize y_rwC : @rwC = x_rwC at *
  generalize y_nRw : @nRw = x_nRw at *
  (repeat' first | ((first | with_reducible refine tr_cut (fun h => ?_) (fun h => ?_) | refine aw_condj (by cbv) (fun h => ?_) (fun h => ?_)) <;> (try simp (disch := omega) only [hj, std, cmpI, cmpB, satB, Bool.not_eq_true, Bool.not_eq_false, decide_eq_true_eq, decide_eq_false_iff_not, beq_iff_eq, bne_iff_ne, bne_eq_false_iff_eq, beq_eq_false_iff_ne, ne_eq, reduceCtorEq, not_true_eq_false, not_false_eq_true, pl0, if_true, cmpS_eq, cmpS_neq, Bool.not_eq_eq_eq_not, Bool.not_true, Bool.not_false, Bool.not_eq_true', eF, hnn, gA, gB, ite0, Int.ofNat_eq_natCast, Int.toNat_natCast, add64, sub64] at h) <;> (try (exfalso; omega))) | (with_reducible refine tr_alt (fun h => ?_) ?_ <;> (try (exfalso; omega))) | (with_reducible first | refine tr_ob ?_ ?_ | refine tr_done ?_) | (refine aw_dr1 (id := 15) hj tok hm (bookTS x_feQ24 x_mkC24 x_mkN24 x_frC24 x_frN24 x_rlT24 x_nuT24) true [(0, false), (1, false), (2, false), (3, false), (4, false), (5, false), (6, true), (7, true), (8, true), (9, true), (10, true), (11, true), (12, true), (13, false), (14, false), (15, false), (16, false), (17, false), (18, false), (19, false), (20, false), (21, false), (22, false), (23, false), (24, true), (25, true), (26, true), (27, true), (28, true)] (by kernel_rfl) (by cbv) ?_) | (refine aw_dr (id := 15) hj tok hm (bookTS x_feQ24 x_mkC24 x_mkN24 x_frC24 x_frN24 x_rlT24 x_nuT24) true [(0, false), (1, false), (2, false), (3, false), (4, false), (5, false), (6, true), (7, true), (8, true), (9, true), (10, true), (11, true), (12, true), (13, false), (14, false), (15, false), (16, false), (17, false), (18, false), (19, false), (20, false), (21, false), (22, false), (23, false), (24, true), (25, true), (26, true), (27, true), (28, true)] (by kernel_rfl) (by cbv) ?_) | (refine aw_tr hj tok (bookTS x_feQ24 x_mkC24 x_mkN24 x_frC24 x_frN24 x_rlT24 x_nuT24) (by cbv) ?_) | (refine aw_seq fun K hK => ?_) | (refine aw_tr1 hj tok (bookTS x_feQ24 x_mkC24 x_mkN24 x_frC24 x_frN24 x_rlT24 x_nuT24) (by cbv) ?_) | (refine aw_skip ?_) | (refine aw_block ?_) | (refine aw_exit ?_) | (refine aw_ret ⟨.inr rfl, ret_okj hj (by cbv) ?_ ?_⟩) | (refine aw_ret ?_) | (with_reducible first | refine th_n ?_ | refine th_r ?_ | refine th_x ?_ | refine blk_n ?_ | refine blk_r ?_ | refine blk_x ?_ | refine blk_y rfl ?_) | (refine ⟨.inr rfl, ret_okj hj (by cbv) ?_ ?_⟩) | (refine ⟨.inl rfl, ret_okj hj (by cbv) ?_ ?_⟩) | (with_reducible first | refine ⟨(_, _, _, _, _), by cbv, ?_, ?_⟩ | refine ⟨_, by cbv, ?_, ?_⟩) | (with_reducible apply_assumption -symm -exfalso only [*]))
  all_goals ((try subst y_feQ24); (try subst y_mkC24); (try subst y_mkN24); (try subst y_frC24); (try subst y_frN24); (try subst y_rlT24); (try subst y_nuT24); (try subst y_sC); (try subst y_nS); (try subst y_eC); (try subst y_nE); (try subst y_mC); (try subst y_nM); (try subst y_rwC); (try subst y_nRw))
  all_goals (try (repeat' first | with_reducible exact obl0 | with_reducible refine obl1 ?_ ?_))
  all_goals (try first | with_reducible exact True.intro | ((first | refine ob_le hj ?_ | refine ob_lei hj ?_ | refine ob_inb hj ?_ | refine ob_pos hj ?_ | refine ob_ne0 hj ?_ | refine ob_eqb hj ?_); (first | rfl | first | omega | (simp only [hj, std]; split <;> omega) | (simp (disch := omega) only [hj, std, cmpI, cmpB, satB, add64, sub64, ite0, pl0, pl2, pl3, sb0, if_true, if_false, eq_self, hfl, gA, gB] <;> omega) | (simp (disch := omega) [hj, std, cmpI, cmpB, satB, add64, sub64, ite0, pl0, pl2, pl3, sb0, if_true, if_false, eq_self, hfl, gA, gB] <;> omega))) | ((refine ob_le hj ?_; simp only [hj, std, gA, gB, Int.ofNat_eq_natCast, Int.toNat_natCast, ite0]; omega)) | ((refine ob_lei hj ?_; simp only [hj, std, gA, gB, Int.ofNat_eq_natCast]; omega)) | ((refine ob_ok hj ?_; simp only [hj, std, gA, gB, ite0]; first | exact ⟨_, a1⟩ | exact ⟨_, b1⟩)) | ((exfalso; exact hq ⟨by omega, by assumption⟩)) | ((simp (disch := omega) only [hj, std, add64]; first | omega | exact ⟨by omega, by omega, o1, o2, o3, hst.symm⟩)) | ((exfalso; omega)))
end Go.Proofs.Ytcpcghnpoekhpaa.A
/- TrieStates: the walk, as9 the row's step asks for it. -/
set_option linter.unusedSimpArgs false
set_option linter.unusedVariables false
set_option maxRecDepth 100000
set_option maxHeartbeats 4000000
namespace Go.Proofs.Ytcpcghnpoekhpaa
open Go Go.RowKit
theorem trieStates_walk (w : World) (a : Option Addr) (len cap : Nat) (l : List A.Rw) (R : A.RRows w (Value.slice a len cap).cells.toList l) : Calls Try.prog 4 #[.slice a len cap] w fun e w' => e = .returned (.bool true) ∧ Below w.heap.size w w' :=
  A.walk_of_pc (vs := [.slice a len cap]) (A.pc_TrieStates l (A.rows_sz R)) (by simp [A.Arg.asRoot]) (fun b => b < w.heap.size) (fun _ h => h) rfl (fun i h h2 => by
    have h3 : i < 1 := h
    obtain rfl : i = 0 := by omega
    exact ⟨_, rfl, A.rows_arg R⟩)
end Go.Proofs.Ytcpcghnpoekhpaa
