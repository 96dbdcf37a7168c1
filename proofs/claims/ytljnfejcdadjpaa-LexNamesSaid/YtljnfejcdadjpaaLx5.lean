/- Lexing: long and first of lex. -/
import Derived.Test.YtljnfejcdadjpaaLx4
set_option linter.unusedSimpArgs false
set_option linter.unusedVariables false
set_option maxRecDepth 100000
set_option maxHeartbeats 4000000
namespace Go.Proofs.Ytljnfejcdadjpaa.A
open Go
def lgI (t : ByteArray) (x : Int) : Int := if 32 < t.size then 0 else x
def lgS (t : ByteArray) : ByteArray := if 32 < t.size then ByteArray.empty else t
def lgE (t : ByteArray) : Int := if 32 < t.size then 19 else 0
def tkK (s : ByteArray) (i : Int) : Int := (tokAt s i.toNat).1.1
def tkT (s : ByteArray) (i : Int) : ByteArray := (tokAt s i.toNat).1.2.1
def tkW (s : ByteArray) (i : Int) : Int := (tokAt s i.toNat).1.2.2
def tkN (s : ByteArray) (i : Int) : Int := ((tokAt s i.toNat).2.1 : Nat)
def tkE (s : ByteArray) (i : Int) : Int := (tokAt s i.toNat).2.2
def rTok (k : Int) (t : ByteArray) (w n e : Int) : RV := rets [(true, [.st (vI k), .st (vS t), .st (vI w)]), (false, [.st (vI n)]), (false, [.st (vI e)])]
theorem rTok_eq {k k' : Int} {t t' : ByteArray} {w w' n n' e e' : Int} (h1 : k = k') (h2 : t = t') (h3 : w = w') (h4 : n = n') (h5 : e = e') :
    rTok k t w n e = ⟨true, [(true, [.st (.val (.int .i64 k')), .st (.val (.string t')), .st (.val (.int .i64 w'))]), (false, [.st (.val (.int .i64 n'))]), (false, [.st (.val (.int .i64 e'))])]⟩ := by
  rw [h1, h2, h3, h4, h5]; rfl
theorem c_long (k : Int) (t : ByteArray) (w n : Int) : pc 37 [.v true [vI k, vS t, vI w], .v false [vI n]] (rTok (lgI t k) (lgS t) (lgI t w) (lgI t n) (lgE t)) := by
  refine ⟨enters Try.func37 (by kernel_rfl) (by kernel_rfl), pc_of tok Try.func37 rfl (by rfl) ?_⟩
  obtain ⟨j, hj⟩ : ∃ j : J, j = std Try.prog T := ⟨_, rfl⟩
  generalize y_lgI : @lgI = x_lgI at *
  generalize y_lgS : @lgS = x_lgS at *
  generalize y_lgE : @lgE = x_lgE at *
  (repeat' first | (with_reducible refine tr_cut (fun h => ?_) (fun h => ?_) <;> (try simp (disch := omega) only [hj, std, cmpI, cmpB, satB, Bool.not_eq_true, Bool.not_eq_false, decide_eq_true_eq, decide_eq_false_iff_not, beq_iff_eq, bne_iff_ne, bne_eq_false_iff_eq, beq_eq_false_iff_ne, ne_eq, reduceCtorEq, not_true_eq_false, not_false_eq_true, add64, sub64] at h) <;> (try (exfalso; omega))) | (with_reducible refine tr_alt (fun h => ?_) ?_ <;> (try (exfalso; omega))) | (with_reducible refine tr_ob ?_ ?_) | (with_reducible refine tr_done ?_) | (refine aw_tr hj tok book0 (by cbv) ?_) | (refine aw_seq fun K hK => ?_) | (refine aw_tr1 hj tok book0 (by cbv) ?_) | (refine aw_condj (by cbv) (fun h => ?_) (fun h => ?_) <;> (try simp (disch := omega) only [hj, std, cmpI, cmpB, satB, Bool.not_eq_true, Bool.not_eq_false, decide_eq_true_eq, decide_eq_false_iff_not, beq_iff_eq, bne_iff_ne, bne_eq_false_iff_eq, beq_eq_false_iff_ne, ne_eq, reduceCtorEq, not_true_eq_false, not_false_eq_true, add64, sub64] at h) <;> (try (exfalso; omega))) | (refine aw_skip ?_) | (refine aw_block ?_) | (refine aw_exit ?_) | (refine aw_ret ⟨.inr rfl, ret_okj hj (by cbv) ?_ ?_⟩) | (refine aw_ret ?_) | (with_reducible refine th_n ?_) | (with_reducible refine th_r ?_) | (with_reducible refine th_x ?_) | (with_reducible refine blk_n ?_) | (with_reducible refine blk_r ?_) | (with_reducible refine blk_x ?_) | (with_reducible refine blk_y rfl ?_) | (refine ⟨.inr rfl, ret_okj hj (by cbv) ?_ ?_⟩) | (refine ⟨.inl rfl, ret_okj hj (by cbv) ?_ ?_⟩) | ((with_reducible refine ⟨(_, _, _, _, _), by cbv, ?_, ?_⟩)) | ((with_reducible refine ⟨(_, _, _, _), by cbv, ?_, ?_⟩)) | ((with_reducible refine ⟨(_, _, _), by cbv, ?_, ?_⟩)) | ((with_reducible refine ⟨(_, _), by cbv, ?_, ?_⟩)) | ((with_reducible refine ⟨_, by cbv, ?_, ?_⟩)) | (with_reducible apply_assumption -symm -exfalso only [*]))
  all_goals ((try subst y_lgI); (try subst y_lgS); (try subst y_lgE))
  all_goals first | exact obl0 | ((repeat (refine obl1 (by first | ((simp only [lgI, lgS, lgE]; split <;> first | rfl | (exfalso; omega))) | (rfl) | (simp (disch := omega) only [hj, std, cmpI, cmpB, satB, add64, sub64] <;> omega) | (simp (disch := omega) [hj, std, cmpI, cmpB, satB, add64, sub64] <;> omega) | (rw [Bool.eq_iff_iff]; simp (disch := omega) [hj, std, cmpI, cmpB, satB, add64, sub64] <;> omega) | omega) ?_)); exact obl0) | (refine rTok_eq ?_ ?_ ?_ ?_ ?_ <;> first | ((simp only [lgI, lgS, lgE]; split <;> first | rfl | (exfalso; omega))) | (rfl) | (simp (disch := omega) only [hj, std, cmpI, cmpB, satB, add64, sub64] <;> omega) | (simp (disch := omega) [hj, std, cmpI, cmpB, satB, add64, sub64] <;> omega) | (rw [Bool.eq_iff_iff]; simp (disch := omega) [hj, std, cmpI, cmpB, satB, add64, sub64] <;> omega) | omega) | (refine ret1_b ?_ <;> first | ((simp only [lgI, lgS, lgE]; split <;> first | rfl | (exfalso; omega))) | (rfl) | (simp (disch := omega) only [hj, std, cmpI, cmpB, satB, add64, sub64] <;> omega) | (simp (disch := omega) [hj, std, cmpI, cmpB, satB, add64, sub64] <;> omega) | (rw [Bool.eq_iff_iff]; simp (disch := omega) [hj, std, cmpI, cmpB, satB, add64, sub64] <;> omega) | omega)
theorem isMoreN_eq : (fun c : Nat => isMoreI (c : Int)) = isMoreN := by
  funext c; simp only [isMoreI, isLetI, isMoreN, isLetN]; rw [Bool.eq_iff_iff]; simp; omega
theorem isSpelN_eq : (fun c : Nat => isSpelI (c : Int)) = isSpelN := by
  funext c; simp only [isSpelI, isSpelN]; rw [Bool.eq_iff_iff]; simp; omega
theorem isLetN_eq (c : Nat) : isLetI (c : Int) = isLetN c := by
  simp only [isLetI, isLetN]; rw [Bool.eq_iff_iff]; simp; omega
theorem moreI (s : ByteArray) (i : Int) : (spanI isMoreI s i).toNat = span isMoreN s i.toNat := by unfold spanI; rw [isMoreN_eq]; omega
theorem spelI (s : ByteArray) (i : Int) : (spanI isSpelI s i).toNat = span isSpelN s i.toNat := by unfold spanI; rw [isSpelN_eq]; omega
theorem tok_p {s : ByteArray} {i : Int} {c k : Nat} (hk : (c = 58 ∧ k = 3) ∨ (c = 124 ∧ k = 4) ∨ (c = 59 ∧ k = 5)) (h : (bt s i.toNat : Int) = c) : tokAt s i.toNat = (((k : Int), ⟨#[UInt8.ofNat c]⟩, (i.toNat : Int)), i.toNat + 1, 0) := by
  have h' : bt s i.toNat = c := by omega
  unfold tokAt
  dsimp only
  rw [h']
  rcases hk with ⟨rfl, rfl⟩ | ⟨rfl, rfl⟩ | ⟨rfl, rfl⟩ <;> rfl
theorem tok_let {s : ByteArray} {i : Int} (a : ¬ (bt s i.toNat : Int) = 58) (b : ¬ (bt s i.toNat : Int) = 124) (c : ¬ (bt s i.toNat : Int) = 59) (d : isLetI (bt s i.toNat) = true) :
    tokAt s i.toNat = if 32 < (spanI isMoreI s i).toNat - i.toNat then (tk0, i.toNat, 19) else ((1, s.extract i.toNat (spanI isMoreI s i).toNat, i.toNat), (spanI isMoreI s i).toNat, 0) := by
  unfold tokAt
  dsimp only
  rw [if_neg (by omega), if_neg (by omega), if_neg (by omega), if_pos (by rw [← isLetN_eq]; exact d), moreI]
theorem tok_q {s : ByteArray} {i : Int} (h0 : 0 ≤ i) (a : (bt s i.toNat : Int) = 39) :
    tokAt s i.toNat = if s.size ≤ (spanI isSpelI s (i + 1)).toNat ∨ bt s (spanI isSpelI s (i + 1)).toNat ≠ 39 ∨ (spanI isSpelI s (i + 1)).toNat = i.toNat + 1 then (tk0, i.toNat, 13)
      else if 32 < (spanI isSpelI s (i + 1)).toNat - i.toNat - 1 then (tk0, i.toNat, 19) else ((2, s.extract (i.toNat + 1) (spanI isSpelI s (i + 1)).toNat, i.toNat), (spanI isSpelI s (i + 1)).toNat + 1, 0) := by
  have a' : bt s i.toNat = 39 := by omega
  unfold tokAt
  dsimp only
  rw [if_neg (by omega), if_neg (by omega), if_neg (by omega), if_neg (by rw [a']; decide), if_pos a', spelI, show (i + 1).toNat = i.toNat + 1 by omega]
theorem tok_bad {s : ByteArray} {i : Int} (a : ¬ (bt s i.toNat : Int) = 58) (b : ¬ (bt s i.toNat : Int) = 124) (c : ¬ (bt s i.toNat : Int) = 59) (d : isLetI (bt s i.toNat) = false) (e : ¬ (bt s i.toNat : Int) = 39) : tokAt s i.toNat = (tk0, i.toNat, 13) := by
  unfold tokAt
  dsimp only
  rw [if_neg (by omega), if_neg (by omega), if_neg (by omega), if_neg (by rw [← isLetN_eq, d]; simp), if_neg (by omega)]
/-- what first gives, at once -/
def Firsts (s : ByteArray) (k : Int) (t : ByteArray) (w n e : Int) : Prop := tkK s 0 = k ∧ tkT s 0 = t ∧ tkW s 0 = w ∧ tkN s 0 = n ∧ tkE s 0 = e
theorem firsts_of {s : ByteArray} {k : Int} {t : ByteArray} {w : Int} {n : Nat} {e : Int} (h : tokAt s (Int.toNat 0) = ((k, t, w), n, e)) : Firsts s k t w n e := by
  refine ⟨?_, ?_, ?_, ?_, ?_⟩ <;> simp only [tkK, tkT, tkW, tkN, tkE] <;> rw [h]
theorem first_let {s : ByteArray} (a : ¬ (bt s (Int.toNat 0) : Int) = 58) (b : ¬ (bt s (Int.toNat 0) : Int) = 124) (c : ¬ (bt s (Int.toNat 0) : Int) = 59) (d : isLetI (bt s (Int.toNat 0)) = true) :
    Firsts s (lgI (s.extract 0 (spanI isMoreI s 0).toNat) 1) (lgS (s.extract 0 (spanI isMoreI s 0).toNat)) (lgI (s.extract 0 (spanI isMoreI s 0).toNat) 0) (lgI (s.extract 0 (spanI isMoreI s 0).toNat) (spanI isMoreI s 0)) (lgE (s.extract 0 (spanI isMoreI s 0).toNat)) := by
  have h := tok_let a b c d
  have h1 := spanI_le isMoreI s (i := 0) (by omega) (by omega)
  have h2 := spanI_ge isMoreI s (i := 0) (by omega)
  have hz : (s.extract 0 (spanI isMoreI s 0).toNat).size = (spanI isMoreI s 0).toNat := by rw [ByteArray.size_extract]; omega
  simp only [lgI, lgS, lgE, hz]
  by_cases hb : 32 < (spanI isMoreI s 0).toNat
  · rw [if_pos (by simpa using hb)] at h
    simp only [if_pos hb]
    exact firsts_of h
  · rw [if_neg (by simpa using hb)] at h
    simp only [if_neg hb]
    have := firsts_of h
    rwa [show (((spanI isMoreI s 0).toNat : Nat) : Int) = spanI isMoreI s 0 by omega] at this
theorem first_q {s : ByteArray} (h0 : 0 < s.size) (a : (bt s (Int.toNat 0) : Int) = 39) (r : Int) (hr : r = spanI isSpelI (s.extract (Int.toNat 1) s.size) 0) (c1 : 0 < r) (c2 : r + 1 < s.size) (c3 : (bt s (r + 1).toNat : Int) = 39) :
    Firsts s (lgI (s.extract (Int.toNat 1) (r + 1).toNat) 2) (lgS (s.extract (Int.toNat 1) (r + 1).toNat)) (lgI (s.extract (Int.toNat 1) (r + 1).toNat) 0) (lgI (s.extract (Int.toNat 1) (r + 1).toNat) (r + 2)) (lgE (s.extract (Int.toNat 1) (r + 1).toNat)) := by
  have e1 := spanI_tail isSpelI s (i := 1) (by omega) (by omega)
  rw [← hr] at e1
  have h := tok_q (i := 0) (by omega) a
  rw [show (0 : Int) + 1 = 1 by omega, ← e1, if_neg (by rw [show (1 + r) = r + 1 by omega]; omega)] at h
  have hz : (s.extract (Int.toNat 1) (r + 1).toNat).size = r.toNat := by rw [ByteArray.size_extract]; omega
  simp only [lgI, lgS, lgE, hz]
  by_cases hb : 32 < r.toNat
  · rw [if_pos (by simp; omega)] at h
    simp only [if_pos hb]
    exact firsts_of h
  · rw [if_neg (by simp; omega)] at h
    simp only [if_neg hb]
    have := firsts_of h
    rw [show (1 + r) = r + 1 by omega] at this
    rwa [show (((r + 1).toNat + 1 : Nat) : Int) = r + 2 by omega] at this
theorem first_qbad {s : ByteArray} (h0 : 0 < s.size) (a : (bt s (Int.toNat 0) : Int) = 39) (r : Int) (hr : r = spanI isSpelI (s.extract (Int.toNat 1) s.size) 0) (c : ¬ (0 < r ∧ r + 1 < s.size ∧ (bt s (r + 1).toNat : Int) = 39)) :
    Firsts s 0 ByteArray.empty 0 0 13 := by
  have e1 := spanI_tail isSpelI s (i := 1) (by omega) (by omega)
  have e2 := spanI_ge isSpelI s (i := 1) (by omega)
  rw [← hr] at e1
  have h := tok_q (i := 0) (by omega) a
  rw [show (0 : Int) + 1 = 1 by omega, ← e1, if_pos (by rw [show (1 + r) = r + 1 by omega]; omega)] at h
  exact firsts_of h
theorem first_bad {s : ByteArray} (a : ¬ (bt s (Int.toNat 0) : Int) = 58) (b : ¬ (bt s (Int.toNat 0) : Int) = 124) (c : ¬ (bt s (Int.toNat 0) : Int) = 59) (d : isLetI (bt s (Int.toNat 0)) = false) (e : ¬ (bt s (Int.toNat 0) : Int) = 39) : Firsts s 0 ByteArray.empty 0 0 13 :=
  firsts_of (tok_bad a b c d e)
theorem first_p {s : ByteArray} {c k : Nat} (hk : (c = 58 ∧ k = 3) ∨ (c = 124 ∧ k = 4) ∨ (c = 59 ∧ k = 5)) (h : (bt s (Int.toNat 0) : Int) = c) : Firsts s k ⟨#[UInt8.ofNat c]⟩ 0 1 0 := firsts_of (tok_p hk h)
theorem rTok_of {s : ByteArray} {k' : Int} {t' : ByteArray} {w' n' e' : Int} (h : Firsts s k' t' w' n' e') :
    rTok (tkK s 0) (tkT s 0) (tkW s 0) (tkN s 0) (tkE s 0) = ⟨true, [(true, [.st (.val (.int .i64 k')), .st (.val (.string t')), .st (.val (.int .i64 w'))]), (false, [.st (.val (.int .i64 n'))]), (false, [.st (.val (.int .i64 e'))])]⟩ :=
  rTok_eq h.1 h.2.1 h.2.2.1 h.2.2.2.1 h.2.2.2.2
def book3 (x_isLetI : Int → Bool) (x_isMoreI : Int → Bool) (x_spanI : (Int → Bool) → ByteArray → Int → Int) (x_isSpelI : Int → Bool) (x_lgI : ByteArray → Int → Int) (x_lgS : ByteArray → ByteArray) (x_lgE : ByteArray → Int) : Book := fun f xs => match f, xs with
  | 28, [.v false [.val (.int .u8 n)]] => some (ret1 (.st (vB (x_isLetI n))))
  | 29, [.v false [.val (.string s)], .fn 30] => some (ret1 (.st (vI (x_spanI x_isMoreI s 0))))
  | 29, [.v false [.val (.string s)], .fn 31] => some (ret1 (.st (vI (x_spanI x_isSpelI s 0))))
  | 37, [.v true [.val (.int .i64 k), .val (.string t), .val (.int .i64 w)], .v false [.val (.int .i64 n)]] => some (rTok (x_lgI t k) (x_lgS t) (x_lgI t w) (x_lgI t n) (x_lgE t))
  | _, _ => none
set_option maxHeartbeats 4000000 in
theorem pc_first (s : ByteArray) (hs : s.size < 4611686018427387904) (h0 : 0 < s.size) : PC Try.prog T 23 [.v false [vS s]] (rTok (tkK s 0) (tkT s 0) (tkW s 0) (tkN s 0) (tkE s 0)) [] := by
  refine pc_of tok Try.func23 rfl (by rfl) ?_
  obtain ⟨j, hj⟩ : ∃ j : J, j = std Try.prog T := ⟨_, rfl⟩
  have p1 := spanI_ge isMoreI s (i := 0) (by omega)
  have p2 := spanI_le isMoreI s (i := 0) (by omega) (by omega)
  have q1 := spanI_ge isSpelI (s.extract (Int.toNat 1) s.size) (i := 0) (by omega)
  have q2 := spanI_le isSpelI (s.extract (Int.toNat 1) s.size) (i := 0) (by omega) (by omega)
  have q3 := size_tail s (Int.toNat 1)
  generalize y_isLetI : @isLetI = x_isLetI at *
  generalize y_isMoreI : @isMoreI = x_isMoreI at *
  generalize y_spanI : @spanI = x_spanI at *
  generalize y_isSpelI : @isSpelI = x_isSpelI at *
  generalize y_lgI : @lgI = x_lgI at *
  generalize y_lgS : @lgS = x_lgS at *
  generalize y_lgE : @lgE = x_lgE at *
  generalize y_tkK : @tkK = x_tkK at *
  generalize y_tkT : @tkT = x_tkT at *
  generalize y_tkW : @tkW = x_tkW at *
  generalize y_tkN : @tkN = x_tkN at *
  generalize y_tkE : @tkE = x_tkE at *
  (repeat' first | (with_reducible refine tr_cut (fun h => ?_) (fun h => ?_) <;> (try simp (disch := omega) only [hj, std, cmpI, cmpB, satB, Bool.not_eq_true, Bool.not_eq_false, decide_eq_true_eq, decide_eq_false_iff_not, beq_iff_eq, bne_iff_ne, bne_eq_false_iff_eq, beq_eq_false_iff_ne, ne_eq, reduceCtorEq, not_true_eq_false, not_false_eq_true, add64, sub64] at h) <;> (try (exfalso; omega))) | (with_reducible refine tr_alt (fun h => ?_) ?_ <;> (try (exfalso; omega))) | (with_reducible refine tr_ob ?_ ?_) | (with_reducible refine tr_done ?_) | (refine aw_tr hj tok (book3 x_isLetI x_isMoreI x_spanI x_isSpelI x_lgI x_lgS x_lgE) (by cbv) ?_) | (refine aw_seq fun K hK => ?_) | (refine aw_tr1 hj tok (book3 x_isLetI x_isMoreI x_spanI x_isSpelI x_lgI x_lgS x_lgE) (by cbv) ?_) | (refine aw_condj (by cbv) (fun h => ?_) (fun h => ?_) <;> (try simp (disch := omega) only [hj, std, cmpI, cmpB, satB, Bool.not_eq_true, Bool.not_eq_false, decide_eq_true_eq, decide_eq_false_iff_not, beq_iff_eq, bne_iff_ne, bne_eq_false_iff_eq, beq_eq_false_iff_ne, ne_eq, reduceCtorEq, not_true_eq_false, not_false_eq_true, add64, sub64] at h) <;> (try (exfalso; omega))) | (refine aw_skip ?_) | (refine aw_block ?_) | (refine aw_exit ?_) | (refine aw_ret ⟨.inr rfl, ret_okj hj (by cbv) ?_ ?_⟩) | (refine aw_ret ?_) | (with_reducible refine th_n ?_) | (with_reducible refine th_r ?_) | (with_reducible refine th_x ?_) | (with_reducible refine blk_n ?_) | (with_reducible refine blk_r ?_) | (with_reducible refine blk_x ?_) | (with_reducible refine blk_y rfl ?_) | (refine ⟨.inr rfl, ret_okj hj (by cbv) ?_ ?_⟩) | (refine ⟨.inl rfl, ret_okj hj (by cbv) ?_ ?_⟩) | ((with_reducible refine ⟨(_, _, _, _, _), by cbv, ?_, ?_⟩)) | ((with_reducible refine ⟨(_, _, _, _), by cbv, ?_, ?_⟩)) | ((with_reducible refine ⟨(_, _, _), by cbv, ?_, ?_⟩)) | ((with_reducible refine ⟨(_, _), by cbv, ?_, ?_⟩)) | ((with_reducible refine ⟨_, by cbv, ?_, ?_⟩)) | (with_reducible apply_assumption -symm -exfalso only [*]))
  all_goals ((try subst y_isLetI); (try subst y_isMoreI); (try subst y_spanI); (try subst y_isSpelI); (try subst y_lgI); (try subst y_lgS); (try subst y_lgE); (try subst y_tkK); (try subst y_tkT); (try subst y_tkW); (try subst y_tkN); (try subst y_tkE))
  all_goals first | exact obl0 | ((repeat (refine obl1 (by first | (rw [hj]; exact c_letter _) | (rw [hj]; exact c_run hs c_goes) | (rw [hj]; exact c_run (tail_lt hs) c_spells) | (rw [hj]; exact c_long _ _ _ _) | (exact first_p (c := 58) (k := 3) (.inl ⟨rfl, rfl⟩) ‹_›) | (exact first_p (c := 124) (k := 4) (.inr (.inl ⟨rfl, rfl⟩)) ‹_›) | (exact first_p (c := 59) (k := 5) (.inr (.inr ⟨rfl, rfl⟩)) ‹_›) | (exact first_bad ‹_› ‹_› ‹_› ‹_› ‹_›) | ((simp only [hj, std]; exact first_let ‹_› ‹_› ‹_› ‹_›)) | ((simp (disch := omega) only [hj, std, add64]; exact first_q h0 ‹_› _ rfl (by omega) (by omega) ‹_›)) | ((refine first_qbad h0 ‹_› _ rfl ?_; omega)) | (simp (disch := omega) only [hj, std, cmpI, cmpB, satB, add64, sub64] <;> omega) | (simp (disch := omega) [hj, std, cmpI, cmpB, satB, add64, sub64] <;> omega) | (rw [Bool.eq_iff_iff]; simp (disch := omega) [hj, std, cmpI, cmpB, satB, add64, sub64] <;> omega) | omega) ?_)); exact obl0) | (refine rTok_of ?_ <;> first | (rw [hj]; exact c_letter _) | (rw [hj]; exact c_run hs c_goes) | (rw [hj]; exact c_run (tail_lt hs) c_spells) | (rw [hj]; exact c_long _ _ _ _) | (exact first_p (c := 58) (k := 3) (.inl ⟨rfl, rfl⟩) ‹_›) | (exact first_p (c := 124) (k := 4) (.inr (.inl ⟨rfl, rfl⟩)) ‹_›) | (exact first_p (c := 59) (k := 5) (.inr (.inr ⟨rfl, rfl⟩)) ‹_›) | (exact first_bad ‹_› ‹_› ‹_› ‹_› ‹_›) | ((simp only [hj, std]; exact first_let ‹_› ‹_› ‹_› ‹_›)) | ((simp (disch := omega) only [hj, std, add64]; exact first_q h0 ‹_› _ rfl (by omega) (by omega) ‹_›)) | ((refine first_qbad h0 ‹_› _ rfl ?_; omega)) | (simp (disch := omega) only [hj, std, cmpI, cmpB, satB, add64, sub64] <;> omega) | (simp (disch := omega) [hj, std, cmpI, cmpB, satB, add64, sub64] <;> omega) | (rw [Bool.eq_iff_iff]; simp (disch := omega) [hj, std, cmpI, cmpB, satB, add64, sub64] <;> omega) | omega) | (refine ret1_b ?_ <;> first | (rw [hj]; exact c_letter _) | (rw [hj]; exact c_run hs c_goes) | (rw [hj]; exact c_run (tail_lt hs) c_spells) | (rw [hj]; exact c_long _ _ _ _) | (exact first_p (c := 58) (k := 3) (.inl ⟨rfl, rfl⟩) ‹_›) | (exact first_p (c := 124) (k := 4) (.inr (.inl ⟨rfl, rfl⟩)) ‹_›) | (exact first_p (c := 59) (k := 5) (.inr (.inr ⟨rfl, rfl⟩)) ‹_›) | (exact first_bad ‹_› ‹_› ‹_› ‹_› ‹_›) | ((simp only [hj, std]; exact first_let ‹_› ‹_› ‹_› ‹_›)) | ((simp (disch := omega) only [hj, std, add64]; exact first_q h0 ‹_› _ rfl (by omega) (by omega) ‹_›)) | ((refine first_qbad h0 ‹_› _ rfl ?_; omega)) | (simp (disch := omega) only [hj, std, cmpI, cmpB, satB, add64, sub64] <;> omega) | (simp (disch := omega) [hj, std, cmpI, cmpB, satB, add64, sub64] <;> omega) | (rw [Bool.eq_iff_iff]; simp (disch := omega) [hj, std, cmpI, cmpB, satB, add64, sub64] <;> omega) | omega)
end Go.Proofs.Ytljnfejcdadjpaa.A
