/- Errors: the error of a name. -/
import Derived.Test.YtljnfejcdadjpaaDoorEr2
set_option linter.unusedSimpArgs false
set_option linter.unusedVariables false
set_option maxRecDepth 100000
set_option maxHeartbeats 4000000
namespace Go.Proofs.YtljnfejcdadjpaaDoor.A
open Go
def idxB (s : ByteArray) : Nat → Nat → Int
  | 0, _ => -1
  | f + 1, k => if eName k = s then k else idxB s f (k + 1)
theorem idxB_yes {s : ByteArray} {k : Nat} (h : k < 25) (hp : eName k = s) : idxB s (25 - k) k = k := by
  obtain ⟨m, hm⟩ : ∃ m, 25 - k = m + 1 := ⟨25 - k - 1, by omega⟩
  rw [hm, idxB, if_pos hp]
theorem idxB_no {s : ByteArray} {k : Nat} (h : k < 25) (hp : ¬ eName k = s) : idxB s (25 - k) k = idxB s (25 - (k + 1)) (k + 1) := by
  obtain ⟨m, hm⟩ : ∃ m, 25 - k = m + 1 := ⟨25 - k - 1, by omega⟩
  rw [hm, idxB, if_neg hp, show 25 - (k + 1) = m by omega]
theorem idxB_spec (s : ByteArray) : ∀ f k, f + k = 25 → (idxB s f k = -1 ∧ ∀ i, k ≤ i → i < 25 → ¬ eName i = s) ∨ ∃ i : Nat, k ≤ i ∧ i < 25 ∧ idxB s f k = i ∧ eName i = s := by
  intro f
  induction f with
  | zero => intro k h; exact .inl ⟨rfl, fun i h1 h2 => by omega⟩
  | succ f ih =>
    intro k h
    unfold idxB
    by_cases hp : eName k = s
    · rw [if_pos hp]; exact .inr ⟨k, by omega, by omega, rfl, hp⟩
    · rw [if_neg hp]
      rcases ih (k + 1) (by omega) with ⟨h1, h2⟩ | ⟨i, h1, h2, h3, h4⟩
      · refine .inl ⟨h1, fun i hi hi2 => ?_⟩
        by_cases he : i = k
        · rw [he]; exact hp
        · exact h2 i (by omega) hi2
      · exact .inr ⟨i, by omega, h2, h3, h4⟩
def findE (s : ByteArray) : Int := idxB s 25 0
def findP (s : ByteArray) : Int := if 0 ≤ findE s then findE s else 0
def findB (s : ByteArray) : Bool := decide (0 ≤ findE s)
theorem find_lt (s : ByteArray) : -1 ≤ findE s ∧ findE s < 25 := by
  rcases idxB_spec s 25 0 rfl with ⟨h1, _⟩ | ⟨i, _, h2, h3, _⟩ <;> (unfold findE; omega)
theorem find_yes {s : ByteArray} {k : Nat} (h : k < 25) (hp : eName k = s) : findE s = k := by
  rcases idxB_spec s 25 0 rfl with ⟨_, h2⟩ | ⟨i, _, h2, h3, h4⟩
  · exact absurd hp (h2 k (by omega) h)
  · have := eName_inj h2 h (h4.trans hp.symm)
    unfold findE; omega
theorem find_no {s : ByteArray} {k : Nat} (hp : ¬ eName k = s) : findE s ≠ k := by
  intro hf
  rcases idxB_spec s 25 0 rfl with ⟨h1, _⟩ | ⟨i, _, h2, h3, h4⟩
  · unfold findE at hf; omega
  · have : i = k := by unfold findE at hf; omega
    rw [this] at h4; exact hp h4
def rParse (s : ByteArray) : RV := rets [(false, [.st (vI (findP s))]), (false, [.st (vB (findB s))])]
theorem rParse_of {s : ByteArray} {a : Int} {b : Bool} (h1 : findP s = a) (h2 : findB s = b) : rParse s = ⟨true, [(false, [.st (.val (.int .i64 a))]), (false, [.st (.val (.bool b))])]⟩ := by unfold rParse; rw [h1, h2]; rfl
set_option maxRecDepth 100000 in
set_option maxHeartbeats 4000000 in
theorem c_Parse (s : ByteArray) : pc 7 [.v false [vS s]] (rParse s) := by
  refine ⟨enters Tryd.func7 (by kernel_rfl) (by kernel_rfl), pc_of tok Tryd.func7 rfl (by rfl) ?_⟩
  obtain ⟨j, hj⟩ : ∃ j : J, j = std Tryd.prog T := ⟨_, rfl⟩
  have hm : Tryd.prog.follows .mixedOrders = true := by kernel_rfl
  generalize y_eName : @eName = x_eName at *
  generalize y_s25 : @s25 = x_s25 at *
  generalize y_e25 : @e25 = x_e25 at *
  generalize y_knownI : @knownI = x_knownI at *
  generalize y_findE : @findE = x_findE at *
  generalize y_findP : @findP = x_findP at *
  generalize y_findB : @findB = x_findB at *
  (repeat' first | (with_reducible refine tr_cut (fun h => ?_) (fun h => ?_) <;> (try simp (disch := omega) only [hj, std, cmpI, cmpB, satB, Bool.not_eq_true, Bool.not_eq_false, decide_eq_true_eq, decide_eq_false_iff_not, beq_iff_eq, bne_iff_ne, bne_eq_false_iff_eq, beq_eq_false_iff_ne, ne_eq, reduceCtorEq, not_true_eq_false, not_false_eq_true, pl0, if_true, cmpS_eq, cmpS_neq, Bool.not_eq_eq_eq_not, Bool.not_true, Bool.not_false, Bool.not_eq_true', add64, sub64] at h) <;> (try (exfalso; omega))) | (with_reducible refine tr_alt (fun h => ?_) ?_ <;> (try (exfalso; omega))) | (with_reducible refine tr_ob ?_ ?_) | (with_reducible refine tr_done ?_) | (refine aw_tr hj tok (bookS x_eName x_s25 x_e25 x_knownI) (by cbv) ?_) | (refine aw_seq fun K hK => ?_) | (refine aw_tr1 hj tok (bookS x_eName x_s25 x_e25 x_knownI) (by cbv) ?_) | (refine aw_condj (by cbv) (fun h => ?_) (fun h => ?_) <;> (try simp (disch := omega) only [hj, std, cmpI, cmpB, satB, Bool.not_eq_true, Bool.not_eq_false, decide_eq_true_eq, decide_eq_false_iff_not, beq_iff_eq, bne_iff_ne, bne_eq_false_iff_eq, beq_eq_false_iff_ne, ne_eq, reduceCtorEq, not_true_eq_false, not_false_eq_true, pl0, if_true, cmpS_eq, cmpS_neq, Bool.not_eq_eq_eq_not, Bool.not_true, Bool.not_false, Bool.not_eq_true', add64, sub64] at h) <;> (try (exfalso; omega))) | (refine aw_skip ?_) | (refine aw_block ?_) | (refine aw_exit ?_) | (refine aw_ret ⟨.inr rfl, ret_okj hj (by cbv) ?_ ?_⟩) | (refine aw_ret ?_) | (with_reducible refine th_n ?_) | (with_reducible refine th_r ?_) | (with_reducible refine th_x ?_) | (with_reducible refine blk_n ?_) | (with_reducible refine blk_r ?_) | (with_reducible refine blk_x ?_) | (with_reducible refine blk_y rfl ?_) | (refine ⟨.inr rfl, ret_okj hj (by cbv) ?_ ?_⟩) | (refine ⟨.inl rfl, ret_okj hj (by cbv) ?_ ?_⟩) | ((with_reducible refine ⟨(_, _, _, _, _, _, _), by cbv, ?_, ?_⟩)) | ((with_reducible refine ⟨(_, _, _, _, _, _), by cbv, ?_, ?_⟩)) | ((with_reducible refine ⟨(_, _, _, _, _), by cbv, ?_, ?_⟩)) | ((with_reducible refine ⟨(_, _, _, _), by cbv, ?_, ?_⟩)) | ((with_reducible refine ⟨(_, _, _), by cbv, ?_, ?_⟩)) | ((with_reducible refine ⟨(_, _), by cbv, ?_, ?_⟩)) | ((with_reducible refine ⟨_, by cbv, ?_, ?_⟩)) | (with_reducible apply_assumption -symm -exfalso only [*]))
  all_goals ((try subst y_eName); (try subst y_s25); (try subst y_e25); (try subst y_knownI); (try subst y_findE); (try subst y_findP); (try subst y_findB))
  all_goals (try (repeat' first | with_reducible exact obl0 | with_reducible refine obl1 ?_ ?_))
  all_goals (try first | with_reducible exact True.intro | (refine ob_pc hj ?_; (try rw [hj]); first | exact c_names) | (refine ob_le hj ?_; (first | omega | (simp only [hj, std]; split <;> omega) | (simp (disch := omega) only [hj, std, cmpI, cmpB, satB, add64, sub64, ite0, pl0, pl2, pl3, sb0, if_true, if_false, eq_self] <;> omega) | (simp (disch := omega) [hj, std, cmpI, cmpB, satB, add64, sub64, ite0, pl0, pl2, pl3, sb0, if_true, if_false, eq_self] <;> omega))) | (refine ob_lei hj ?_; (first | omega | (simp only [hj, std]; split <;> omega) | (simp (disch := omega) only [hj, std, cmpI, cmpB, satB, add64, sub64, ite0, pl0, pl2, pl3, sb0, if_true, if_false, eq_self] <;> omega) | (simp (disch := omega) [hj, std, cmpI, cmpB, satB, add64, sub64, ite0, pl0, pl2, pl3, sb0, if_true, if_false, eq_self] <;> omega))) | (refine ob_inb hj ?_; (first | omega | (simp only [hj, std]; split <;> omega) | (simp (disch := omega) only [hj, std, cmpI, cmpB, satB, add64, sub64, ite0, pl0, pl2, pl3, sb0, if_true, if_false, eq_self] <;> omega) | (simp (disch := omega) [hj, std, cmpI, cmpB, satB, add64, sub64, ite0, pl0, pl2, pl3, sb0, if_true, if_false, eq_self] <;> omega))) | (refine ob_pos hj ?_; (first | omega | (simp only [hj, std]; split <;> omega) | (simp (disch := omega) only [hj, std, cmpI, cmpB, satB, add64, sub64, ite0, pl0, pl2, pl3, sb0, if_true, if_false, eq_self] <;> omega) | (simp (disch := omega) [hj, std, cmpI, cmpB, satB, add64, sub64, ite0, pl0, pl2, pl3, sb0, if_true, if_false, eq_self] <;> omega))) | (refine ob_ne0 hj ?_; (first | omega | (simp only [hj, std]; split <;> omega) | (simp (disch := omega) only [hj, std, cmpI, cmpB, satB, add64, sub64, ite0, pl0, pl2, pl3, sb0, if_true, if_false, eq_self] <;> omega) | (simp (disch := omega) [hj, std, cmpI, cmpB, satB, add64, sub64, ite0, pl0, pl2, pl3, sb0, if_true, if_false, eq_self] <;> omega))) | (refine ob_eqb hj ?_; (first | rfl | first | omega | (simp only [hj, std]; split <;> omega) | (simp (disch := omega) only [hj, std, cmpI, cmpB, satB, add64, sub64, ite0, pl0, pl2, pl3, sb0, if_true, if_false, eq_self] <;> omega) | (simp (disch := omega) [hj, std, cmpI, cmpB, satB, add64, sub64, ite0, pl0, pl2, pl3, sb0, if_true, if_false, eq_self] <;> omega))) | (exact rfl))
  refine aw_frz 4 (by cbv) ?_
  generalize hE : ([.val (.string ⟨⟨[111, 107]⟩⟩), .val (.string ⟨⟨[97, 114, 103]⟩⟩), .val (.string ⟨⟨[115, 104, 111, 114, 116]⟩⟩), .val (.string ⟨⟨[102, 111, 114, 109]⟩⟩), .val (.string ⟨⟨[114, 97, 110, 103, 101]⟩⟩), .val (.string ⟨⟨[108, 111, 110, 103]⟩⟩), .val (.string ⟨⟨[115, 117, 109]⟩⟩), .val (.string ⟨⟨[110, 111, 110, 101]⟩⟩), .val (.string ⟨⟨[101, 120, 105, 115, 116]⟩⟩), .val (.string ⟨⟨[102, 117, 108, 108]⟩⟩), .val (.string ⟨⟨[105, 111]⟩⟩), .val (.string ⟨⟨[100, 111, 119, 110]⟩⟩), .val (.string ⟨⟨[99, 108, 111, 115, 101, 100]⟩⟩), .val (.string ⟨⟨[116, 101, 120, 116]⟩⟩), .val (.string ⟨⟨[115, 121, 110, 116, 97, 120]⟩⟩), .val (.string ⟨⟨[116, 119, 105, 99, 101]⟩⟩), .val (.string ⟨⟨[117, 110, 100, 101, 102, 105, 110, 101, 100]⟩⟩), .val (.string ⟨⟨[117, 110, 114, 101, 97, 99, 104, 101, 100]⟩⟩), .val (.string ⟨⟨[101, 109, 112, 116, 121]⟩⟩), .val (.string ⟨⟨[98, 111, 117, 110, 100]⟩⟩), .val (.string ⟨⟨[99, 111, 110, 102, 108, 105, 99, 116]⟩⟩), .val (.string ⟨⟨[108, 105, 109, 105, 116]⟩⟩), .val (.string ⟨⟨[100, 97, 109, 97, 103, 101, 100]⟩⟩), .val (.string ⟨⟨[97, 98, 115, 101, 110, 116]⟩⟩), .val (.string ⟨⟨[115, 116, 97, 116, 101]⟩⟩)] : List C) = E
  have hE2 : E = rowE := hE.symm
  have hEl : E.length = 25 := by rw [hE2]; exact rowE_len
  clear hE
  refine aw_lpj hj [(0, .keep), (4, .keep), (7, .keep)] [] (fun i : Int => stOf 17 [(0, .one (.c (vS s))), (4, .one (.mem E 0)), (7, .one (.c (vI i)))] []) (fun i => 25 - i.toNat) (fun i => 0 ≤ i ∧ i ≤ 25 ∧ idxB s (25 - i.toNat) i.toNat = findE s) 0 (by generalize @eName = x_eName; generalize @s25 = x_s25; generalize @e25 = x_e25; generalize @knownI = x_knownI; generalize @findE = x_findE; generalize @findP = x_findP; generalize @findB = x_findB; cbv) ⟨by omega, by omega, rfl⟩ fun i ⟨i1, i2, i3⟩ => ?_
  generalize y_eName : @eName = x_eName at *
  generalize y_s25 : @s25 = x_s25 at *
  generalize y_e25 : @e25 = x_e25 at *
  generalize y_knownI : @knownI = x_knownI at *
  generalize y_findE : @findE = x_findE at *
  generalize y_findP : @findP = x_findP at *
  generalize y_findB : @findB = x_findB at *
  (repeat' first | (with_reducible refine tr_cut (fun h => ?_) (fun h => ?_) <;> (try simp (disch := omega) only [hj, std, cmpI, cmpB, satB, Bool.not_eq_true, Bool.not_eq_false, decide_eq_true_eq, decide_eq_false_iff_not, beq_iff_eq, bne_iff_ne, bne_eq_false_iff_eq, beq_eq_false_iff_ne, ne_eq, reduceCtorEq, not_true_eq_false, not_false_eq_true, pl0, if_true, cmpS_eq, cmpS_neq, Bool.not_eq_eq_eq_not, Bool.not_true, Bool.not_false, Bool.not_eq_true', add64, sub64] at h) <;> (try (exfalso; omega))) | (with_reducible refine tr_alt (fun h => ?_) ?_ <;> (try (exfalso; omega))) | (with_reducible refine tr_ob ?_ ?_) | (with_reducible refine tr_done ?_) | (refine aw_tr hj tok (bookS x_eName x_s25 x_e25 x_knownI) (by cbv) ?_) | (refine aw_seq fun K hK => ?_) | (refine aw_tr1 hj tok (bookS x_eName x_s25 x_e25 x_knownI) (by cbv) ?_) | (refine aw_condj (by cbv) (fun h => ?_) (fun h => ?_) <;> (try simp (disch := omega) only [hj, std, cmpI, cmpB, satB, Bool.not_eq_true, Bool.not_eq_false, decide_eq_true_eq, decide_eq_false_iff_not, beq_iff_eq, bne_iff_ne, bne_eq_false_iff_eq, beq_eq_false_iff_ne, ne_eq, reduceCtorEq, not_true_eq_false, not_false_eq_true, pl0, if_true, cmpS_eq, cmpS_neq, Bool.not_eq_eq_eq_not, Bool.not_true, Bool.not_false, Bool.not_eq_true', add64, sub64] at h) <;> (try (exfalso; omega))) | (refine aw_skip ?_) | (refine aw_block ?_) | (refine aw_exit ?_) | (refine aw_ret ⟨.inr rfl, ret_okj hj (by cbv) ?_ ?_⟩) | (refine aw_ret ?_) | (with_reducible refine th_n ?_) | (with_reducible refine th_r ?_) | (with_reducible refine th_x ?_) | (with_reducible refine blk_n ?_) | (with_reducible refine blk_r ?_) | (with_reducible refine blk_x ?_) | (with_reducible refine blk_y rfl ?_) | (refine ⟨.inr rfl, ret_okj hj (by cbv) ?_ ?_⟩) | (refine ⟨.inl rfl, ret_okj hj (by cbv) ?_ ?_⟩) | ((with_reducible refine ⟨(_, _, _, _, _, _, _), by cbv, ?_, ?_⟩)) | ((with_reducible refine ⟨(_, _, _, _, _, _), by cbv, ?_, ?_⟩)) | ((with_reducible refine ⟨(_, _, _, _, _), by cbv, ?_, ?_⟩)) | ((with_reducible refine ⟨(_, _, _, _), by cbv, ?_, ?_⟩)) | ((with_reducible refine ⟨(_, _, _), by cbv, ?_, ?_⟩)) | ((with_reducible refine ⟨(_, _), by cbv, ?_, ?_⟩)) | ((with_reducible refine ⟨_, by cbv, ?_, ?_⟩)) | (with_reducible apply_assumption -symm -exfalso only [*]))
  all_goals ((try subst y_eName); (try subst y_s25); (try subst y_e25); (try subst y_knownI); (try subst y_findE); (try subst y_findP); (try subst y_findB))
  all_goals (try (have hi := ‹i < 25›; have hat := rowE_at (k := i.toNat) (by omega); rw [← hE2] at hat))
  all_goals (try (have h9 : eName i.toNat = s := (by have h9 := ‹gs (cellAt E i.toNat) = s›; rw [hat] at h9; exact h9); have f9 := find_yes (k := i.toNat) (by omega) h9))
  all_goals (try (have h9 : ¬ eName i.toNat = s := (by have h9 := ‹¬ gs (cellAt E i.toNat) = s›; rw [hat] at h9; exact h9); have f9 := idxB_no (k := i.toNat) (by omega) h9; rw [i3] at f9; have e9 : (i + 1).toNat = i.toNat + 1 := (by omega)))
  all_goals (try (have h9 := ‹¬ i < 25›; have f8 : findE s = -1 := (by rw [← i3, show i.toNat = 25 by omega]; rfl)))
  all_goals (try (repeat' first | with_reducible exact obl0 | with_reducible refine obl1 ?_ ?_))
  all_goals (try first | with_reducible exact True.intro | (refine ob_pc hj ?_; (try rw [hj]); first | exact c_names) | (refine ob_le hj ?_; (first | omega | (simp only [hj, std]; split <;> omega) | (simp (disch := omega) only [hj, std, cmpI, cmpB, satB, add64, sub64, ite0, pl0, pl2, pl3, sb0, if_true, if_false, eq_self, hEl] <;> omega) | (simp (disch := omega) [hj, std, cmpI, cmpB, satB, add64, sub64, ite0, pl0, pl2, pl3, sb0, if_true, if_false, eq_self, hEl] <;> omega))) | (refine ob_lei hj ?_; (first | omega | (simp only [hj, std]; split <;> omega) | (simp (disch := omega) only [hj, std, cmpI, cmpB, satB, add64, sub64, ite0, pl0, pl2, pl3, sb0, if_true, if_false, eq_self, hEl] <;> omega) | (simp (disch := omega) [hj, std, cmpI, cmpB, satB, add64, sub64, ite0, pl0, pl2, pl3, sb0, if_true, if_false, eq_self, hEl] <;> omega))) | (refine ob_inb hj ?_; (first | omega | (simp only [hj, std]; split <;> omega) | (simp (disch := omega) only [hj, std, cmpI, cmpB, satB, add64, sub64, ite0, pl0, pl2, pl3, sb0, if_true, if_false, eq_self, hEl] <;> omega) | (simp (disch := omega) [hj, std, cmpI, cmpB, satB, add64, sub64, ite0, pl0, pl2, pl3, sb0, if_true, if_false, eq_self, hEl] <;> omega))) | (refine ob_pos hj ?_; (first | omega | (simp only [hj, std]; split <;> omega) | (simp (disch := omega) only [hj, std, cmpI, cmpB, satB, add64, sub64, ite0, pl0, pl2, pl3, sb0, if_true, if_false, eq_self, hEl] <;> omega) | (simp (disch := omega) [hj, std, cmpI, cmpB, satB, add64, sub64, ite0, pl0, pl2, pl3, sb0, if_true, if_false, eq_self, hEl] <;> omega))) | (refine ob_ne0 hj ?_; (first | omega | (simp only [hj, std]; split <;> omega) | (simp (disch := omega) only [hj, std, cmpI, cmpB, satB, add64, sub64, ite0, pl0, pl2, pl3, sb0, if_true, if_false, eq_self, hEl] <;> omega) | (simp (disch := omega) [hj, std, cmpI, cmpB, satB, add64, sub64, ite0, pl0, pl2, pl3, sb0, if_true, if_false, eq_self, hEl] <;> omega))) | (refine ob_eqb hj ?_; (first | rfl | first | omega | (simp only [hj, std]; split <;> omega) | (simp (disch := omega) only [hj, std, cmpI, cmpB, satB, add64, sub64, ite0, pl0, pl2, pl3, sb0, if_true, if_false, eq_self, hEl] <;> omega) | (simp (disch := omega) [hj, std, cmpI, cmpB, satB, add64, sub64, ite0, pl0, pl2, pl3, sb0, if_true, if_false, eq_self, hEl] <;> omega))) | (exact rfl) | ((refine ob_ok hj ?_; simp only [hj, std, pl0, if_true, eq_self]; exact ⟨_, hat⟩)) | ((refine rParse_of ?_ ?_ <;> first | (unfold findP; rw [f9, if_pos (by omega)]; omega) | (exact decide_eq_true (by omega)) | (unfold findP; rw [f8]; rfl) | (unfold findB; rw [f8]; rfl))) | ((simp (disch := omega) only [hj, std, add64, e9]; first | omega | exact ⟨by omega, by omega, f9.symm⟩)))
end Go.Proofs.YtljnfejcdadjpaaDoor.A
