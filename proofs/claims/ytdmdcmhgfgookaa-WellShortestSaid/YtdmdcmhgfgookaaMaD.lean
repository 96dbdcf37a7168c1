import Derived.Test.YtdmdcmhgfgookaaMaC
import Derived.Test.YtdmdcmhgfgookaaAm31
import Derived.Test.YtdmdcmhgfgookaaRead
import Derived.Test.YtdmdcmhgfgookaaAm34
/- Grammars that are well made: how long the shortest strings are, who is reached. -/
set_option linter.unusedSimpArgs false
set_option linter.unusedVariables false
set_option maxRecDepth 100000
set_option maxHeartbeats 4000000
namespace Go.Proofs.Ytdmdcmhgfgookaa.A
open Go
abbrev fnSh : FuncId := 46
abbrev fnRe : FuncId := 43
def itGS (cs : List C) (n : Nat) (D : List C) : List C := iterF fS (rlsOf cs) (n + 1) D
def itGR (cs : List C) (n : Nat) (D : List C) : List C := iterF fR (rlsOf cs) (n + 1) D
/-- what a valid grammar's rules are like -/
theorem fit_of {n t : Nat} {r : Rl} (h : fitR n t r = true) : 0 ≤ r.1 ∧ r.1 < n ∧ nI r.2 ≤ 64 ∧ ∀ s ∈ r.2, s < n ∧ -(t : Int) ≤ s := by
  unfold fitR at h
  rw [Bool.and_eq_true, decide_eq_true_eq, Bool.not_eq_true'] at h
  obtain ⟨⟨h1, h2, h3⟩, h4⟩ := h
  refine ⟨h1, h2, h3, fun s hs => ?_⟩
  unfold hasB at h4
  rw [List.any_eq_false] at h4
  have := h4 s hs
  unfold badI at this
  rw [decide_eq_true_eq] at this
  omega
theorem sumGo_le (sh : List Int) : ∀ (l : List Int) (n : Int), sumGo sh l n ≤ 1000000 := by
  intro l
  induction l with
  | nil => intro n; unfold sumGo; split <;> omega
  | cons s l ih =>
    intro n
    unfold sumGo
    split
    · exact ih _
    · split
      · omega
      · exact ih _
theorem stepS_le {sh : List Int} (h : ∀ s ∈ sh, s ≤ 1000000) (r : Rl) : ∀ s ∈ stepS sh r, s ≤ 1000000 := by
  unfold stepS
  split
  · intro s hs
    rcases List.mem_or_eq_of_mem_set hs with h1 | h1
    · exact h s h1
    · rw [h1]; exact sumGo_le _ _ _
  · exact h
theorem c_roundsS {ns ts : List ByteArray} {rs : List Rl} {l : List Int} (hS : Sml ns ts rs) (hv : validG ns ts rs = true) (hl : l.length = nS ns) (hb : ∀ s ∈ l, s ≤ 1000000) :
    (std Try.prog T).pc 42 [.v true [(C.sl (nS ns) (sC ns)), (C.sl (nS ts) (sC ts)), (C.sl (nR rs) (rC rs))], .clo fnSh [2], .virt (.box [.own intT (nS ns) (iC l)])] (rets []) [.none, .none, .box [.own intT (nS ns) (itGS (rC rs) (nS ns) (iC l))]] := by
  unfold itGS
  rw [rlsOf_rC]
  refine ⟨enters Try.func42 (by kernel_rfl) (by kernel_rfl), pc_rounds ns ts rs fnSh fS (fun D => ∃ l : List Int, D = iC l ∧ l.length = nS ns ∧ ∀ s ∈ l, s ≤ 1000000) (nS ns) (iC l) ⟨l, rfl, hl, hb⟩ hS.n hS.r ?_ ?_⟩
  · rintro D ⟨l, rfl, _⟩; exact iC_vals _
  · rintro D ⟨l, rfl, h1, h2⟩ r hr
    obtain ⟨f1, f2, f3, f4⟩ := fit_of ((validG_iff.1 hv).2.2.2.1 r hr)
    have hn : nI l = nS ns := by rw [nI_eq, h1]
    refine ⟨⟨stepS l r, fS_iC r l, by rw [stepS_len, h1], stepS_le h2 r⟩, ?_⟩
    rw [fS_iC, ← hn]
    exact c_Sh1 (by rw [hn]; exact ⟨f1, f2⟩) (by omega) (fun s hs => by rw [hn]; exact (f4 s hs).1) h2
theorem c_roundsR {ns ts : List ByteArray} {rs : List Rl} {l : List Bool} (hS : Sml ns ts rs) (hv : validG ns ts rs = true) (hl : l.length = nS ns) :
    (std Try.prog T).pc 42 [.v true [(C.sl (nS ns) (sC ns)), (C.sl (nS ts) (sC ts)), (C.sl (nR rs) (rC rs))], .clo fnRe [2], .virt (.box [.own boolT (nS ns) (bC l)])] (rets []) [.none, .none, .box [.own boolT (nS ns) (itGR (rC rs) (nS ns) (bC l))]] := by
  unfold itGR
  rw [rlsOf_rC]
  refine ⟨enters Try.func42 (by kernel_rfl) (by kernel_rfl), pc_roundsB ns ts rs fnRe fR (fun D => ∃ l : List Bool, D = bC l ∧ l.length = nS ns) (nS ns) (bC l) ⟨l, rfl, hl⟩ hS.n hS.r ?_ ?_⟩
  · rintro D ⟨l, rfl, _⟩; exact bC_vals _
  · rintro D ⟨l, rfl, h1⟩ r hr
    obtain ⟨f1, f2, f3, f4⟩ := fit_of ((validG_iff.1 hv).2.2.2.1 r hr)
    have hn : nB l = nS ns := by rw [nB_eq, h1]
    refine ⟨⟨stepR l r, fR_bC r l, by rw [stepR_len, h1]⟩, ?_⟩
    rw [fR_bC, ← hn]
    exact ⟨enters Try.func43 (by kernel_rfl) (by kernel_rfl), pc_Re1 r.1 r.2 l (by rw [hn]; exact ⟨f1, f2⟩) (by omega) (fun s hs => by rw [hn]; exact (f4 s hs).1)⟩
def repI (c n : Int) : List C := iC (List.replicate n.toNat c)
def tnI (n : Int) : Nat := n.toNat
def bookWs (x_rlsOf : List C → List Rl) (x_validG : List ByteArray → List ByteArray → List Rl → Bool) (x_strsOf : List C → List ByteArray) (x_itGS : List C → Nat → List C → List C) (x_itGR : List C → Nat → List C → List C) (x_repI : Int → Int → List C) (x_tnI : Int → Nat) : Book := fun f xs => match f, xs with
  | 23, [.v true [.sl _ a, .sl _ b, .sl _ c]] => some (ret1 (.st (vB (x_validG (x_strsOf a) (x_strsOf b) (x_rlsOf c)))))
  | 45, [.v false [.sl 1 [.val (.int .i64 c)]], .v false [.val (.int .i64 n)]] => some (ret1 (.own intT (x_tnI n) (x_repI c n)))
  | 42, [.v true [.sl n _, .sl _ _, .sl _ cs], .clo 46 [2], .virt (.box [.own e m D])] => some (rets [], [.none, .none, .box [.own e m (x_itGS cs n D)]])
  | 42, [.v true [.sl n _, .sl _ _, .sl _ cs], .clo 43 [2], .virt (.box [.own e m D])] => some (rets [], [.none, .none, .box [.own e m (x_itGR cs n D)]])
  | _, _ => none
theorem c_ValidG {ns ts : List ByteArray} {rs : List Rl} (hS : Sml ns ts rs) : pc 23 [.v true [(C.sl (nS ns) (sC ns)), (C.sl (nS ts) (sC ts)), (C.sl (nR rs) (rC rs))]] (ret1 (.st (vB (validG (strsOf (sC ns)) (strsOf (sC ts)) (rlsOf (rC rs)))))) := by
  rw [strsOf_sC, strsOf_sC, rlsOf_rC]
  exact ⟨enters Try.func23 (by kernel_rfl) (by kernel_rfl), pc_ValidG ns ts rs hS⟩
theorem c_Repeat {c n : Int} (h0 : 0 ≤ n) (hb : n ≤ 1000000) : pc 45 [.v false [.sl 1 [vI c]], .v false [vI n]] (ret1 (.own intT (tnI n) (repI c n))) :=
  ⟨enters Try.func45 (by kernel_rfl) (by kernel_rfl), pc_Repeat c n h0 hb⟩
theorem shortR_yes {ns ts : List ByteArray} {rs : List Rl} (h : validG ns ts rs = true) : itGS (rC rs) (nS ns) (iC (List.replicate (nS ns) (-1))) = iC (shortR ns ts rs) := by
  unfold itGS shortR; rw [rlsOf_rC, if_pos h, iterS]
theorem shortR_no {ns ts : List ByteArray} {rs : List Rl} (h : validG ns ts rs = false) : shortR ns ts rs = [] := by
  unfold shortR; rw [if_neg (by rw [h]; decide)]
theorem itS_len (rs : List Rl) (l : List Int) : ∀ n, (itS rs n l).length = l.length := by
  intro n
  induction n with
  | zero => rfl
  | succ n ih =>
    rw [itS]
    have : ∀ (rs : List Rl) (l : List Int), (rs.foldl stepS l).length = l.length := fun rs => by
      induction rs with
      | nil => intro l; rfl
      | cons r rs ih => intro l; rw [List.foldl_cons, ih, stepS_len]
    rw [this, ih]
theorem itR_len (rs : List Rl) (l : List Bool) : ∀ n, (itR rs n l).length = l.length := by
  intro n
  induction n with
  | zero => rfl
  | succ n ih =>
    rw [itR]
    have : ∀ (rs : List Rl) (l : List Bool), (rs.foldl stepR l).length = l.length := fun rs => by
      induction rs with
      | nil => intro l; rfl
      | cons r rs ih => intro l; rw [List.foldl_cons, ih, stepR_len]
    rw [this, ih]
theorem shortR_len {ns ts : List ByteArray} {rs : List Rl} (h : validG ns ts rs = true) : nI (shortR ns ts rs) = nS ns := by
  rw [nI_eq]; unfold shortR; rw [if_pos h, itS_len, List.length_replicate]
theorem reachR_yes {ns ts : List ByteArray} {rs : List Rl} (h : validG ns ts rs = true) : itGR (rC rs) (nS ns) (bC ((List.replicate (nS ns) false).set 0 true)) = bC (reachR ns ts rs) := by
  unfold itGR reachR; rw [rlsOf_rC, if_pos h, iterR]
theorem reachR_no {ns ts : List ByteArray} {rs : List Rl} (h : validG ns ts rs = false) : reachR ns ts rs = [] := by
  unfold reachR; rw [if_neg (by rw [h]; decide)]
theorem reachR_len {ns ts : List ByteArray} {rs : List Rl} (h : validG ns ts rs = true) : nB (reachR ns ts rs) = nS ns := by
  rw [nB_eq]; unfold reachR; rw [if_pos h, itR_len, List.length_set, List.length_replicate]
theorem tnI_nat (n : Nat) : tnI (n : Int) = n := rfl
theorem repI_nat (c : Int) (n : Nat) : repI c (n : Int) = iC (List.replicate n c) := rfl
theorem c_roundsS0 {ns ts : List ByteArray} {rs : List Rl} (hS : Sml ns ts rs) (hv : validG ns ts rs = true) :
    (std Try.prog T).pc 42 [.v true [(C.sl (nS ns) (sC ns)), (C.sl (nS ts) (sC ts)), (C.sl (nR rs) (rC rs))], .clo fnSh [2], .virt (.box [.own intT (tnI (nS ns)) (repI (-1) (nS ns))])] (rets []) [.none, .none, .box [.own intT (tnI (nS ns)) (itGS (rC rs) (nS ns) (repI (-1) (nS ns)))]] := by
  rw [tnI_nat, repI_nat]
  exact c_roundsS hS hv (by simp) (fun s hs => by rw [List.eq_of_mem_replicate hs]; omega)
theorem shortR_go {ns ts : List ByteArray} {rs : List Rl} (h : validG ns ts rs = true) : itGS (rC rs) (nS ns) (repI (-1) (nS ns)) = iC (shortR ns ts rs) := by rw [repI_nat]; exact shortR_yes h
theorem pc_Shortest (ns ts : List ByteArray) (rs : List Rl) (hS : Sml ns ts rs) : PC Try.prog T 17 [.v true [(C.sl (nS ns) (sC ns)), (C.sl (nS ts) (sC ts)), (C.sl (nR rs) (rC rs))]] (ret1 (.own intT (nI (shortR ns ts rs)) (iC (shortR ns ts rs)))) [] := by
  have ha := hS.n; have hb := hS.t; have hc := hS.r
  refine pc_of tok Try.func17 rfl (by rfl) ?_
  obtain ⟨j, hj⟩ : ∃ j : J, j = std Try.prog T := ⟨_, rfl⟩
  have hm : Try.prog.follows .mixedOrders = true := by kernel_rfl
  generalize y_rlsOf : @rlsOf = x_rlsOf at *
  generalize y_validG : @validG = x_validG at *
  generalize y_strsOf : @strsOf = x_strsOf at *
  generalize y_itGS : @itGS = x_itGS at *
  generalize y_itGR : @itGR = x_itGR at *
  generalize y_repI : @repI = x_repI at *
  generalize y_tnI : @tnI = x_tnI at *
  generalize y_rC : @rC = x_rC at *
  generalize y_nR : @nR = x_nR at *
  generalize y_sC : @sC = x_sC at *
  generalize y_iC : @iC = x_iC at *
  generalize y_nS : @nS = x_nS at *
  generalize y_nI : @nI = x_nI at *
  generalize y_shortR : @shortR = x_shortR at *
  (repeat' first | (refine aw_ret ⟨.inr rfl, ret_oknil hj intT (by cbv) ?_ ?_⟩) | (refine ⟨.inr rfl, ret_oknil hj intT (by cbv) ?_ ?_⟩) | ((first | with_reducible refine tr_cut (fun h => ?_) (fun h => ?_) | refine aw_condj (by cbv) (fun h => ?_) (fun h => ?_)) <;> (try simp (disch := omega) only [hj, std, cmpI, cmpB, satB, Bool.not_eq_true, Bool.not_eq_false, decide_eq_true_eq, decide_eq_false_iff_not, beq_iff_eq, bne_iff_ne, bne_eq_false_iff_eq, beq_eq_false_iff_ne, ne_eq, reduceCtorEq, not_true_eq_false, not_false_eq_true, pl0, if_true, cmpS_eq, cmpS_neq, Bool.not_eq_eq_eq_not, Bool.not_true, Bool.not_false, Bool.not_eq_true', add64, sub64] at h) <;> (try (exfalso; omega))) | (with_reducible refine tr_alt (fun h => ?_) ?_ <;> (try (exfalso; omega))) | (with_reducible refine tr_ob ?_ ?_) | (with_reducible refine tr_done ?_) | (refine aw_tr hj tok (bookWs x_rlsOf x_validG x_strsOf x_itGS x_itGR x_repI x_tnI) (by cbv) ?_) | (refine aw_seq fun K hK => ?_) | (refine aw_tr1 hj tok (bookWs x_rlsOf x_validG x_strsOf x_itGS x_itGR x_repI x_tnI) (by cbv) ?_) | (refine aw_skip ?_) | (refine aw_block ?_) | (refine aw_exit ?_) | (refine aw_ret ⟨.inr rfl, ret_okj hj (by cbv) ?_ ?_⟩) | (refine aw_ret ?_) | (with_reducible refine th_n ?_) | (with_reducible refine th_r ?_) | (with_reducible refine th_x ?_) | (with_reducible refine blk_n ?_) | (with_reducible refine blk_r ?_) | (with_reducible refine blk_x ?_) | (with_reducible refine blk_y rfl ?_) | (refine ⟨.inr rfl, ret_okj hj (by cbv) ?_ ?_⟩) | (refine ⟨.inl rfl, ret_okj hj (by cbv) ?_ ?_⟩) | ((with_reducible refine ⟨(_, _, _, _, _, _, _), by cbv, ?_, ?_⟩)) | ((with_reducible refine ⟨(_, _, _, _, _, _), by cbv, ?_, ?_⟩)) | ((with_reducible refine ⟨(_, _, _, _, _), by cbv, ?_, ?_⟩)) | ((with_reducible refine ⟨(_, _, _, _), by cbv, ?_, ?_⟩)) | ((with_reducible refine ⟨(_, _, _), by cbv, ?_, ?_⟩)) | ((with_reducible refine ⟨(_, _), by cbv, ?_, ?_⟩)) | ((with_reducible refine ⟨_, by cbv, ?_, ?_⟩)) | (with_reducible apply_assumption -symm -exfalso only [*]))
  all_goals ((try subst y_rlsOf); (try subst y_validG); (try subst y_strsOf); (try subst y_itGS); (try subst y_itGR); (try subst y_repI); (try subst y_tnI); (try subst y_rC); (try subst y_nR); (try subst y_sC); (try subst y_iC); (try subst y_nS); (try subst y_nI); (try subst y_shortR))
  all_goals (try have q := ‹validG _ _ _ = true›)
  all_goals (try have q := ‹validG _ _ _ = false›)
  all_goals (try rw [strsOf_sC, strsOf_sC, rlsOf_rC] at q)
  all_goals (try (repeat' first | with_reducible exact obl0 | with_reducible refine obl1 ?_ ?_))
  all_goals (try first | with_reducible exact True.intro | (refine ob_pc hj ?_; (try rw [hj]); first | exact c_ValidG hS | exact c_Repeat (n := (nS ns : Int)) (by omega) (by omega) | exact c_roundsS0 hS q) | (refine ob_pcn hj ?_; (try rw [hj]); first | exact c_ValidG hS | exact c_Repeat (n := (nS ns : Int)) (by omega) (by omega) | exact c_roundsS0 hS q) | ((first | refine ob_le hj ?_ | refine ob_lei hj ?_ | refine ob_inb hj ?_ | refine ob_pos hj ?_ | refine ob_ne0 hj ?_ | refine ob_eqb hj ?_); (first | rfl | first | omega | (simp only [hj, std]; split <;> omega) | (simp (disch := omega) only [hj, std, cmpI, cmpB, satB, add64, sub64, ite0, pl0, pl2, pl3, sb0, if_true, if_false, eq_self] <;> omega) | (simp (disch := omega) [hj, std, cmpI, cmpB, satB, add64, sub64, ite0, pl0, pl2, pl3, sb0, if_true, if_false, eq_self] <;> omega))) | ((refine (ret1_c (own_eq ?_ ?_)).symm <;> rw [shortR_no q] <;> rfl)) | ((refine ob_vals hj ?_; exact iC_vals _)) | ((refine ob_vals hj ?_; rw [hj]; show ∀ c ∈ itGS (rC rs) (nS ns) (repI (-1) (nS ns)), _; rw [shortR_go q]; exact iC_vals _)) | ((refine (ret1_c (own_eq ?_ ?_)).symm; rw [shortR_len q, hj]; rfl; rw [← shortR_go q, hj]; rfl)))
end Go.Proofs.Ytdmdcmhgfgookaa.A

/- Grammars that are well made: who is reached, who is productive. -/
set_option linter.unusedSimpArgs false
set_option linter.unusedVariables false
set_option maxRecDepth 100000
set_option maxHeartbeats 4000000
namespace Go.Proofs.Ytdmdcmhgfgookaa.A
open Go
def repF (n : Nat) : List C := bC (List.replicate n false)
theorem setB0 {n : Nat} (h : 1 ≤ n) : setC (repC n [vB false]) 0 [vB true] = bC ((List.replicate n false).set 0 true) := by
  rw [bC_rep]; exact bC_set _ true (by rw [List.length_replicate]; omega)
theorem c_roundsR0 {ns ts : List ByteArray} {rs : List Rl} {D : List C} (hS : Sml ns ts rs) (hv : validG ns ts rs = true) (hD : D = bC ((List.replicate (nS ns) false).set 0 true)) :
    (std Try.prog T).pc 42 [.v true [(C.sl (nS ns) (sC ns)), (C.sl (nS ts) (sC ts)), (C.sl (nR rs) (rC rs))], .clo fnRe [2], .virt (.box [.own boolT (nS ns) D])] (rets []) [.none, .none, .box [.own boolT (nS ns) (itGR (rC rs) (nS ns) D)]] := by
  subst hD
  exact c_roundsR hS hv (by simp)
theorem pc_Reached (ns ts : List ByteArray) (rs : List Rl) (hS : Sml ns ts rs) : PC Try.prog T 16 [.v true [(C.sl (nS ns) (sC ns)), (C.sl (nS ts) (sC ts)), (C.sl (nR rs) (rC rs))]] (ret1 (.own boolT (nB (reachR ns ts rs)) (bC (reachR ns ts rs)))) [] := by
  have ha := hS.n; have hb := hS.t; have hc := hS.r
  refine pc_of tok Try.func16 rfl (by rfl) ?_
  obtain ⟨j, hj⟩ : ∃ j : J, j = std Try.prog T := ⟨_, rfl⟩
  have hm : Try.prog.follows .mixedOrders = true := by kernel_rfl
  generalize y_rlsOf : @rlsOf = x_rlsOf at *
  generalize y_validG : @validG = x_validG at *
  generalize y_strsOf : @strsOf = x_strsOf at *
  generalize y_itGS : @itGS = x_itGS at *
  generalize y_itGR : @itGR = x_itGR at *
  generalize y_repI : @repI = x_repI at *
  generalize y_tnI : @tnI = x_tnI at *
  generalize y_rC : @rC = x_rC at *
  generalize y_nR : @nR = x_nR at *
  generalize y_sC : @sC = x_sC at *
  generalize y_bC : @bC = x_bC at *
  generalize y_nS : @nS = x_nS at *
  generalize y_nB : @nB = x_nB at *
  generalize y_reachR : @reachR = x_reachR at *
  (repeat' first | (refine aw_ret ⟨.inr rfl, ret_oknil hj boolT (by cbv) ?_ ?_⟩) | (refine ⟨.inr rfl, ret_oknil hj boolT (by cbv) ?_ ?_⟩) | ((first | with_reducible refine tr_cut (fun h => ?_) (fun h => ?_) | refine aw_condj (by cbv) (fun h => ?_) (fun h => ?_)) <;> (try simp (disch := omega) only [hj, std, cmpI, cmpB, satB, Bool.not_eq_true, Bool.not_eq_false, decide_eq_true_eq, decide_eq_false_iff_not, beq_iff_eq, bne_iff_ne, bne_eq_false_iff_eq, beq_eq_false_iff_ne, ne_eq, reduceCtorEq, not_true_eq_false, not_false_eq_true, pl0, if_true, cmpS_eq, cmpS_neq, Bool.not_eq_eq_eq_not, Bool.not_true, Bool.not_false, Bool.not_eq_true', add64, sub64] at h) <;> (try (exfalso; omega))) | (with_reducible refine tr_alt (fun h => ?_) ?_ <;> (try (exfalso; omega))) | (with_reducible refine tr_ob ?_ ?_) | (with_reducible refine tr_done ?_) | (refine aw_tr hj tok (bookWs x_rlsOf x_validG x_strsOf x_itGS x_itGR x_repI x_tnI) (by cbv) ?_) | (refine aw_seq fun K hK => ?_) | (refine aw_tr1 hj tok (bookWs x_rlsOf x_validG x_strsOf x_itGS x_itGR x_repI x_tnI) (by cbv) ?_) | (refine aw_skip ?_) | (refine aw_block ?_) | (refine aw_exit ?_) | (refine aw_ret ⟨.inr rfl, ret_okj hj (by cbv) ?_ ?_⟩) | (refine aw_ret ?_) | (with_reducible refine th_n ?_) | (with_reducible refine th_r ?_) | (with_reducible refine th_x ?_) | (with_reducible refine blk_n ?_) | (with_reducible refine blk_r ?_) | (with_reducible refine blk_x ?_) | (with_reducible refine blk_y rfl ?_) | (refine ⟨.inr rfl, ret_okj hj (by cbv) ?_ ?_⟩) | (refine ⟨.inl rfl, ret_okj hj (by cbv) ?_ ?_⟩) | ((with_reducible refine ⟨(_, _, _, _, _, _, _), by cbv, ?_, ?_⟩)) | ((with_reducible refine ⟨(_, _, _, _, _, _), by cbv, ?_, ?_⟩)) | ((with_reducible refine ⟨(_, _, _, _, _), by cbv, ?_, ?_⟩)) | ((with_reducible refine ⟨(_, _, _, _), by cbv, ?_, ?_⟩)) | ((with_reducible refine ⟨(_, _, _), by cbv, ?_, ?_⟩)) | ((with_reducible refine ⟨(_, _), by cbv, ?_, ?_⟩)) | ((with_reducible refine ⟨_, by cbv, ?_, ?_⟩)) | (with_reducible apply_assumption -symm -exfalso only [*]))
  all_goals ((try subst y_rlsOf); (try subst y_validG); (try subst y_strsOf); (try subst y_itGS); (try subst y_itGR); (try subst y_repI); (try subst y_tnI); (try subst y_rC); (try subst y_nR); (try subst y_sC); (try subst y_bC); (try subst y_nS); (try subst y_nB); (try subst y_reachR))
  all_goals (try have q := ‹validG _ _ _ = true›)
  all_goals (try have q := ‹validG _ _ _ = false›)
  all_goals (try rw [strsOf_sC, strsOf_sC, rlsOf_rC] at q)
  all_goals (try have h1 := (validG_iff.1 q).1.1)
  all_goals (try (repeat' first | with_reducible exact obl0 | with_reducible refine obl1 ?_ ?_))
  all_goals (try first | with_reducible exact True.intro | (refine ob_pc hj ?_; (try rw [hj]); first | exact c_ValidG hS | exact c_roundsR0 hS q (by exact setB0 h1)) | (refine ob_pcn hj ?_; (try rw [hj]); first | exact c_ValidG hS | exact c_roundsR0 hS q (by exact setB0 h1)) | ((first | refine ob_le hj ?_ | refine ob_lei hj ?_ | refine ob_inb hj ?_ | refine ob_pos hj ?_ | refine ob_ne0 hj ?_ | refine ob_eqb hj ?_); (first | rfl | first | omega | (simp only [hj, std]; split <;> omega) | (simp (disch := omega) only [hj, std, cmpI, cmpB, satB, add64, sub64, ite0, pl0, pl2, pl3, sb0, if_true, if_false, eq_self, repC_length] <;> omega) | (simp (disch := omega) [hj, std, cmpI, cmpB, satB, add64, sub64, ite0, pl0, pl2, pl3, sb0, if_true, if_false, eq_self, repC_length] <;> omega))) | ((refine (ret1_c (own_eq ?_ ?_)).symm <;> rw [reachR_no q] <;> rfl)) | ((refine ob_vals hj ?_; rw [hj]; show ∀ c ∈ setC (repC (nS ns) [vB false]) 0 [vB true], _; rw [setB0 h1]; exact bC_vals _)) | ((refine ob_vals hj ?_; rw [hj]; show ∀ c ∈ itGR (rC rs) (nS ns) (setC (repC (nS ns) [vB false]) 0 [vB true]), _; rw [setB0 h1, reachR_yes q]; exact bC_vals _)) | ((refine (ret1_c (own_eq ?_ ?_)).symm; rw [reachR_len q, hj]; rfl; rw [hj]; show itGR (rC rs) (nS ns) (setC (repC (nS ns) [vB false]) 0 [vB true]) = _; rw [setB0 h1, reachR_yes q])))
def bookPr (x_rlsOf : List C → List Rl) (x_iC : List Int → List C) (x_nI : List Int → Nat) (x_strsOf : List C → List ByteArray) (x_isTm : Int → Bool) (x_shortR : List ByteArray → List ByteArray → List Rl → List Int) : Book := fun f xs => match f, xs with
  | 17, [.v true [.sl _ a, .sl _ b, .sl _ c]] => some (ret1 (.own intT (x_nI (x_shortR (x_strsOf a) (x_strsOf b) (x_rlsOf c))) (x_iC (x_shortR (x_strsOf a) (x_strsOf b) (x_rlsOf c)))))
  | 44, [.v false [.val (.int .i64 s)]] => some (ret1 (.st (vB (x_isTm s))))
  | _, _ => none
theorem c_Shortest {ns ts : List ByteArray} {rs : List Rl} (hS : Sml ns ts rs) : pc 17 [.v true [(C.sl (nS ns) (sC ns)), (C.sl (nS ts) (sC ts)), (C.sl (nR rs) (rC rs))]] (ret1 (.own intT (nI (shortR (strsOf (sC ns)) (strsOf (sC ts)) (rlsOf (rC rs)))) (iC (shortR (strsOf (sC ns)) (strsOf (sC ts)) (rlsOf (rC rs)))))) := by
  rw [strsOf_sC, strsOf_sC, rlsOf_rC]
  exact ⟨enters Try.func17 (by kernel_rfl) (by kernel_rfl), pc_Shortest ns ts rs hS⟩
theorem shortR_small {ns ts : List ByteArray} {rs : List Rl} (hS : Sml ns ts rs) : nI (shortR ns ts rs) ≤ 1000000 := by
  cases h : validG ns ts rs with
  | true => rw [shortR_len h]; exact hS.n
  | false => rw [shortR_no h]; decide
theorem pc_Productive (ns ts : List ByteArray) (rs : List Rl) (hS : Sml ns ts rs) : PC Try.prog T 15 [.v true [(C.sl (nS ns) (sC ns)), (C.sl (nS ts) (sC ts)), (C.sl (nR rs) (rC rs))]] (ret1 (.own boolT (nB (prodR ns ts rs)) (bC (prodR ns ts rs)))) [] := by
  have hsm := shortR_small hS
  refine pc_of tok Try.func15 rfl (by rfl) ?_
  obtain ⟨j, hj⟩ : ∃ j : J, j = std Try.prog T := ⟨_, rfl⟩
  have hm : Try.prog.follows .mixedOrders = true := by kernel_rfl
  have e1 : strsOf (sC ns) = ns := strsOf_sC ns
  have e2 : strsOf (sC ts) = ts := strsOf_sC ts
  have e3 : rlsOf (rC rs) = rs := rlsOf_rC rs
  generalize y_rlsOf : @rlsOf = x_rlsOf at *
  generalize y_iC : @iC = x_iC at *
  generalize y_nI : @nI = x_nI at *
  generalize y_strsOf : @strsOf = x_strsOf at *
  generalize y_isTm : @isTm = x_isTm at *
  generalize y_shortR : @shortR = x_shortR at *
  generalize y_rC : @rC = x_rC at *
  generalize y_nR : @nR = x_nR at *
  generalize y_sC : @sC = x_sC at *
  generalize y_bC : @bC = x_bC at *
  generalize y_nS : @nS = x_nS at *
  generalize y_nB : @nB = x_nB at *
  generalize y_prodR : @prodR = x_prodR at *
  (repeat' first | ((first | with_reducible refine tr_cut (fun h => ?_) (fun h => ?_) | refine aw_condj (by cbv) (fun h => ?_) (fun h => ?_)) <;> (try simp (disch := omega) only [hj, std, cmpI, cmpB, satB, Bool.not_eq_true, Bool.not_eq_false, decide_eq_true_eq, decide_eq_false_iff_not, beq_iff_eq, bne_iff_ne, bne_eq_false_iff_eq, beq_eq_false_iff_ne, ne_eq, reduceCtorEq, not_true_eq_false, not_false_eq_true, pl0, if_true, cmpS_eq, cmpS_neq, Bool.not_eq_eq_eq_not, Bool.not_true, Bool.not_false, Bool.not_eq_true', add64, sub64] at h) <;> (try (exfalso; omega))) | (with_reducible refine tr_alt (fun h => ?_) ?_ <;> (try (exfalso; omega))) | (with_reducible refine tr_ob ?_ ?_) | (with_reducible refine tr_done ?_) | (refine aw_tr hj tok (bookPr x_rlsOf x_iC x_nI x_strsOf x_isTm x_shortR) (by cbv) ?_) | (refine aw_seq fun K hK => ?_) | (refine aw_tr1 hj tok (bookPr x_rlsOf x_iC x_nI x_strsOf x_isTm x_shortR) (by cbv) ?_) | (refine aw_skip ?_) | (refine aw_block ?_) | (refine aw_exit ?_) | (refine aw_ret ⟨.inr rfl, ret_okj hj (by cbv) ?_ ?_⟩) | (refine aw_ret ?_) | (with_reducible refine th_n ?_) | (with_reducible refine th_r ?_) | (with_reducible refine th_x ?_) | (with_reducible refine blk_n ?_) | (with_reducible refine blk_r ?_) | (with_reducible refine blk_x ?_) | (with_reducible refine blk_y rfl ?_) | (refine ⟨.inr rfl, ret_okj hj (by cbv) ?_ ?_⟩) | (refine ⟨.inl rfl, ret_okj hj (by cbv) ?_ ?_⟩) | ((with_reducible refine ⟨(_, _, _, _, _, _, _), by cbv, ?_, ?_⟩)) | ((with_reducible refine ⟨(_, _, _, _, _, _), by cbv, ?_, ?_⟩)) | ((with_reducible refine ⟨(_, _, _, _, _), by cbv, ?_, ?_⟩)) | ((with_reducible refine ⟨(_, _, _, _), by cbv, ?_, ?_⟩)) | ((with_reducible refine ⟨(_, _, _), by cbv, ?_, ?_⟩)) | ((with_reducible refine ⟨(_, _), by cbv, ?_, ?_⟩)) | ((with_reducible refine ⟨_, by cbv, ?_, ?_⟩)) | (with_reducible apply_assumption -symm -exfalso only [*]))
  all_goals ((try subst y_rlsOf); (try subst y_iC); (try subst y_nI); (try subst y_strsOf); (try subst y_isTm); (try subst y_shortR); (try subst y_rC); (try subst y_nR); (try subst y_sC); (try subst y_bC); (try subst y_nS); (try subst y_nB); (try subst y_prodR))
  all_goals (try (repeat' first | with_reducible exact obl0 | with_reducible refine obl1 ?_ ?_))
  all_goals (try first | with_reducible exact True.intro | (refine ob_pc hj ?_; (try rw [hj]); first | exact c_Shortest hS) | (refine ob_pcn hj ?_; (try rw [hj]); first | exact c_Shortest hS) | ((first | refine ob_le hj ?_ | refine ob_lei hj ?_ | refine ob_inb hj ?_ | refine ob_pos hj ?_ | refine ob_ne0 hj ?_ | refine ob_eqb hj ?_); (first | rfl | first | omega | (simp only [hj, std]; split <;> omega) | (simp (disch := omega) only [hj, std, cmpI, cmpB, satB, add64, sub64, ite0, pl0, pl2, pl3, sb0, if_true, if_false, eq_self] <;> omega) | (simp (disch := omega) [hj, std, cmpI, cmpB, satB, add64, sub64, ite0, pl0, pl2, pl3, sb0, if_true, if_false, eq_self] <;> omega))) | ((refine ob_vals hj ?_; exact iC_vals _)))

  generalize hl : shortR (strsOf (sC ns)) (strsOf (sC ts)) (rlsOf (rC rs)) = l at *
  have hl2 : shortR ns ts rs = l := by rw [← hl, e1, e2, e3]
  rw [hl2] at hsm
  have nl := nI_eq l
  have hP : prodR ns ts rs = l.map fun n => decide (n ≥ 0) := by unfold prodR; rw [hl2]
  refine aw_lpj hj [(3, .own boolT), (7, .fz), (8, .keep), (9, .keep)] [] (fun (⟨i, n, cs⟩ : Int × Nat × (List C)) => stOf 20 [(3, .one (.view 3 0)), (7, .one (.c ((C.sl (nI l) (iC l))))), (8, .one (.c (vI (j.ofNat (nI l))))), (9, .one (.c (vI i)))] [(3, .loose [.own boolT n cs])]) (fun (⟨i, n, cs⟩ : Int × Nat × (List C)) => nI l - i.toNat) (fun (⟨i, n, cs⟩ : Int × Nat × (List C)) => 0 ≤ i ∧ i ≤ nI l ∧ ∃ L : List Bool, n = nB L ∧ cs = bC L ∧ L = (l.take i.toNat).map fun n => decide (n ≥ 0)) ((0, 0, [])) (by generalize @rlsOf = x_rlsOf; generalize @iC = x_iC; generalize @nI = x_nI; generalize @strsOf = x_strsOf; generalize @isTm = x_isTm; generalize @shortR = x_shortR; generalize @rC = x_rC; generalize @nR = x_nR; generalize @sC = x_sC; generalize @bC = x_bC; generalize @nS = x_nS; generalize @nB = x_nB; generalize @prodR = x_prodR; cbv) ?_ (fun ⟨i, n, cs⟩ hI => ?_)
  · exact ⟨by omega, by omega, [], rfl, rfl, rfl⟩
  obtain ⟨i1, i2, L, l1, l2, l3⟩ := hI
  have hL : L.length = i.toNat := by rw [l3, List.length_map, List.length_take]; omega
  have nL := nB_eq L
  have hend : ¬ i < nI l → L = prodR ns ts rs := fun h => by rw [hP, l3, List.take_of_length_le (by omega)]
  have hnext : i < nI l → (l.take (i + 1).toNat).map (fun n => decide (n ≥ 0)) = L ++ [decide (iAt l i.toNat ≥ 0)] := fun h => by
    rw [l3, show (i + 1).toNat = i.toNat + 1 by omega, take_snoc 0 (by omega), List.map_append]; rfl
  generalize y_rlsOf : @rlsOf = x_rlsOf at *
  generalize y_iC : @iC = x_iC at *
  generalize y_nI : @nI = x_nI at *
  generalize y_strsOf : @strsOf = x_strsOf at *
  generalize y_isTm : @isTm = x_isTm at *
  generalize y_shortR : @shortR = x_shortR at *
  generalize y_rC : @rC = x_rC at *
  generalize y_nR : @nR = x_nR at *
  generalize y_sC : @sC = x_sC at *
  generalize y_bC : @bC = x_bC at *
  generalize y_nS : @nS = x_nS at *
  generalize y_nB : @nB = x_nB at *
  generalize y_prodR : @prodR = x_prodR at *
  (repeat' first | ((first | with_reducible refine tr_cut (fun h => ?_) (fun h => ?_) | refine aw_condj (by cbv) (fun h => ?_) (fun h => ?_)) <;> (try simp (disch := omega) only [hj, std, cmpI, cmpB, satB, Bool.not_eq_true, Bool.not_eq_false, decide_eq_true_eq, decide_eq_false_iff_not, beq_iff_eq, bne_iff_ne, bne_eq_false_iff_eq, beq_eq_false_iff_ne, ne_eq, reduceCtorEq, not_true_eq_false, not_false_eq_true, pl0, if_true, cmpS_eq, cmpS_neq, Bool.not_eq_eq_eq_not, Bool.not_true, Bool.not_false, Bool.not_eq_true', add64, sub64] at h) <;> (try (exfalso; omega))) | (with_reducible refine tr_alt (fun h => ?_) ?_ <;> (try (exfalso; omega))) | (with_reducible refine tr_ob ?_ ?_) | (with_reducible refine tr_done ?_) | (refine aw_tr hj tok (bookPr x_rlsOf x_iC x_nI x_strsOf x_isTm x_shortR) (by cbv) ?_) | (refine aw_seq fun K hK => ?_) | (refine aw_tr1 hj tok (bookPr x_rlsOf x_iC x_nI x_strsOf x_isTm x_shortR) (by cbv) ?_) | (refine aw_skip ?_) | (refine aw_block ?_) | (refine aw_exit ?_) | (refine aw_ret ⟨.inr rfl, ret_okj hj (by cbv) ?_ ?_⟩) | (refine aw_ret ?_) | (with_reducible refine th_n ?_) | (with_reducible refine th_r ?_) | (with_reducible refine th_x ?_) | (with_reducible refine blk_n ?_) | (with_reducible refine blk_r ?_) | (with_reducible refine blk_x ?_) | (with_reducible refine blk_y rfl ?_) | (refine ⟨.inr rfl, ret_okj hj (by cbv) ?_ ?_⟩) | (refine ⟨.inl rfl, ret_okj hj (by cbv) ?_ ?_⟩) | ((with_reducible refine ⟨(_, _, _, _, _, _, _), by cbv, ?_, ?_⟩)) | ((with_reducible refine ⟨(_, _, _, _, _, _), by cbv, ?_, ?_⟩)) | ((with_reducible refine ⟨(_, _, _, _, _), by cbv, ?_, ?_⟩)) | ((with_reducible refine ⟨(_, _, _, _), by cbv, ?_, ?_⟩)) | ((with_reducible refine ⟨(_, _, _), by cbv, ?_, ?_⟩)) | ((with_reducible refine ⟨(_, _), by cbv, ?_, ?_⟩)) | ((with_reducible refine ⟨_, by cbv, ?_, ?_⟩)) | (with_reducible apply_assumption -symm -exfalso only [*]))
  all_goals ((try subst y_rlsOf); (try subst y_iC); (try subst y_nI); (try subst y_strsOf); (try subst y_isTm); (try subst y_shortR); (try subst y_rC); (try subst y_nR); (try subst y_sC); (try subst y_bC); (try subst y_nS); (try subst y_nB); (try subst y_prodR))
  all_goals (try (repeat' first | with_reducible exact obl0 | with_reducible refine obl1 ?_ ?_))
  all_goals (try first | with_reducible exact True.intro | ((first | refine ob_le hj ?_ | refine ob_lei hj ?_ | refine ob_inb hj ?_ | refine ob_pos hj ?_ | refine ob_ne0 hj ?_ | refine ob_eqb hj ?_); (first | rfl | first | omega | (simp only [hj, std]; split <;> omega) | (simp (disch := omega) only [hj, std, cmpI, cmpB, satB, add64, sub64, ite0, pl0, pl2, pl3, sb0, if_true, if_false, eq_self, iC_len] <;> omega) | (simp (disch := omega) [hj, std, cmpI, cmpB, satB, add64, sub64, ite0, pl0, pl2, pl3, sb0, if_true, if_false, eq_self, iC_len] <;> omega))) | ((refine ob_ok hj ?_; simp only [hj, std, ite0]; exact ok_iC (by omega))) | ((refine (ret1_c (own_eq ?_ ?_)).symm; rw [l1, hend (by omega)]; rw [l2, hend (by omega)])) | ((simp (disch := omega) only [hj, std, add64, ite0]; first | omega | exact ⟨by omega, by omega, L ++ [decide (iAt l i.toNat ≥ 0)], by rw [l1, nB_eq, nB_eq, List.length_append]; rfl, by rw [l2, gi_iC]; exact bC_snoc L _, (hnext (by omega)).symm⟩)))
end Go.Proofs.Ytdmdcmhgfgookaa.A

/- Grammars that are well made: which terminals stand in rules; what is wrong. -/
set_option linter.unusedSimpArgs false
set_option linter.unusedVariables false
set_option maxRecDepth 100000
set_option maxHeartbeats 4000000
namespace Go.Proofs.Ytdmdcmhgfgookaa.A
open Go
/-- counters: of each terminal whether it was met -/
def Seen (L : List Int) (n : Nat) (Q : Int → Prop) (b : Int) : Prop := L.length = n ∧ ∀ t : Nat, t < n → 0 ≤ iAt L t ∧ iAt L t ≤ b ∧ (iAt L t = 0 ↔ ¬ Q (-1 - (t : Int)))
theorem seen_new (n : Nat) : Seen (List.replicate n 0) n (fun _ => False) 0 := by
  refine ⟨by simp, fun t ht => ?_⟩
  have : iAt (List.replicate n 0) t = 0 := by rw [iAt, List.getD_eq_getElem?_getD, List.getElem?_replicate, if_pos ht]; rfl
  rw [this]; simp
theorem seen_mono {L : List Int} {n : Nat} {Q Q' : Int → Prop} {b b' : Int} (h : Seen L n Q b) (hb : b ≤ b') (hQ : ∀ t : Nat, t < n → (Q (-1 - (t : Int)) ↔ Q' (-1 - (t : Int)))) : Seen L n Q' b' :=
  ⟨h.1, fun t ht => by obtain ⟨h1, h2, h3⟩ := h.2 t ht; exact ⟨h1, by omega, by rw [h3, hQ t ht]⟩⟩
theorem seen_bump {L : List Int} {n : Nat} {Q : Int → Prop} {b s : Int} (h : Seen L n Q b) (hs : s < 0) (hn : -1 - s < n) : Seen (L.set (-1 - s).toNat (iAt L (-1 - s).toNat + 1)) n (fun x => Q x ∨ x = s) (b + 1) := by
  refine ⟨by rw [List.length_set]; exact h.1, fun t ht => ?_⟩
  obtain ⟨h1, h2, h3⟩ := h.2 t ht
  rw [iAt, List.getD_eq_getElem?_getD, List.getElem?_set]
  by_cases e : (-1 - s).toNat = t
  · rw [if_pos e, if_pos (by rw [h.1]; omega)]
    simp only [Option.getD_some]
    rw [e]
    refine ⟨by omega, by omega, ?_⟩
    constructor
    · intro h4; omega
    · intro h4; exact absurd (.inr (by omega)) h4
  · rw [if_neg e]
    rw [iAt, List.getD_eq_getElem?_getD] at h1 h2 h3
    refine ⟨h1, by omega, h3.trans ?_⟩
    constructor
    · rintro h4 (h5 | h5)
      · exact h4 h5
      · omega
    · intro h4 h5; exact h4 (.inl h5)
def idxI (v : Int) : List Int → Int → Int
  | [], _ => -1
  | x :: l, i => if x = v then i else idxI v l (i + 1)
def idxBl (v : Bool) : List Bool → Int → Int
  | [], _ => -1
  | x :: l, i => if x = v then i else idxBl v l (i + 1)
def fndI (l : List Int) (v : Int) : Int := idxI v l 0
def fndB (l : List Bool) (v : Bool) : Int := idxBl v l 0
def hasI (l : List Int) (v : Int) : Bool := l.any fun x => decide (x = v)
def hasBl (l : List Bool) (v : Bool) : Bool := l.any fun x => decide (x = v)
theorem idxI_has (v : Int) : ∀ (l : List Int) (i : Int), 0 ≤ i → decide (idxI v l i ≥ 0) = l.any fun x => decide (x = v) := by
  intro l
  induction l with
  | nil => intro i _; simp [idxI]
  | cons x l ih =>
    intro i hi
    unfold idxI
    rw [List.any_cons]
    split
    · rename_i h; simp [h, hi]
    · rename_i h; rw [ih (i + 1) (by omega)]; simp [h]
theorem idxBl_has (v : Bool) : ∀ (l : List Bool) (i : Int), 0 ≤ i → decide (idxBl v l i ≥ 0) = l.any fun x => decide (x = v) := by
  intro l
  induction l with
  | nil => intro i _; simp [idxBl]
  | cons x l ih =>
    intro i hi
    unfold idxBl
    rw [List.any_cons]
    split
    · rename_i h; simp [h, hi]
    · rename_i h; rw [ih (i + 1) (by omega)]; simp [h]
theorem bdrop_step (l : List Bool) (i : Int) (h0 : 0 ≤ i) (h : i < nB l) : l.drop i.toNat = bAt l i.toNat :: l.drop (i + 1).toNat := by
  have hn := nB_eq l
  have e : (i + 1).toNat = i.toNat + 1 := by omega
  rw [e]; exact drop_cons _ (by omega)
theorem bdrop_fin (l : List Bool) (i : Int) (h : ¬ i < nB l) : l.drop i.toNat = [] := by
  have hn := nB_eq l
  exact List.drop_eq_nil_of_le (by omega)
theorem pc_IndexI (l : List Int) (v : Int) (hl : nI l ≤ 1000000) : PC Try.prog T 96 [.v false [(C.sl (nI l) (iC l))], .v false [vI v]] (ret1 (.st (vI (fndI l v)))) [] := by
  refine pc_of tok Try.func96 rfl (by rfl) ?_
  obtain ⟨j, hj⟩ : ∃ j : J, j = std Try.prog T := ⟨_, rfl⟩
  have hm : Try.prog.follows .mixedOrders = true := by kernel_rfl
  have nl := nI_eq l
  generalize y_iC : @iC = x_iC at *
  generalize y_nI : @nI = x_nI at *
  generalize y_fndI : @fndI = x_fndI at *
  (repeat' first | ((first | with_reducible refine tr_cut (fun h => ?_) (fun h => ?_) | refine aw_condj (by cbv) (fun h => ?_) (fun h => ?_)) <;> (try simp (disch := omega) only [hj, std, cmpI, cmpB, satB, Bool.not_eq_true, Bool.not_eq_false, decide_eq_true_eq, decide_eq_false_iff_not, beq_iff_eq, bne_iff_ne, bne_eq_false_iff_eq, beq_eq_false_iff_ne, ne_eq, reduceCtorEq, not_true_eq_false, not_false_eq_true, pl0, if_true, cmpS_eq, cmpS_neq, Bool.not_eq_eq_eq_not, Bool.not_true, Bool.not_false, Bool.not_eq_true', add64, sub64] at h) <;> (try (exfalso; omega))) | (with_reducible refine tr_alt (fun h => ?_) ?_ <;> (try (exfalso; omega))) | (with_reducible refine tr_ob ?_ ?_) | (with_reducible refine tr_done ?_) | (refine aw_tr hj tok book0 (by cbv) ?_) | (refine aw_seq fun K hK => ?_) | (refine aw_tr1 hj tok book0 (by cbv) ?_) | (refine aw_skip ?_) | (refine aw_block ?_) | (refine aw_exit ?_) | (refine aw_ret ⟨.inr rfl, ret_okj hj (by cbv) ?_ ?_⟩) | (refine aw_ret ?_) | (with_reducible refine th_n ?_) | (with_reducible refine th_r ?_) | (with_reducible refine th_x ?_) | (with_reducible refine blk_n ?_) | (with_reducible refine blk_r ?_) | (with_reducible refine blk_x ?_) | (with_reducible refine blk_y rfl ?_) | (refine ⟨.inr rfl, ret_okj hj (by cbv) ?_ ?_⟩) | (refine ⟨.inl rfl, ret_okj hj (by cbv) ?_ ?_⟩) | ((with_reducible refine ⟨(_, _, _, _, _, _, _), by cbv, ?_, ?_⟩)) | ((with_reducible refine ⟨(_, _, _, _, _, _), by cbv, ?_, ?_⟩)) | ((with_reducible refine ⟨(_, _, _, _, _), by cbv, ?_, ?_⟩)) | ((with_reducible refine ⟨(_, _, _, _), by cbv, ?_, ?_⟩)) | ((with_reducible refine ⟨(_, _, _), by cbv, ?_, ?_⟩)) | ((with_reducible refine ⟨(_, _), by cbv, ?_, ?_⟩)) | ((with_reducible refine ⟨_, by cbv, ?_, ?_⟩)) | (with_reducible apply_assumption -symm -exfalso only [*]))
  all_goals ((try subst y_iC); (try subst y_nI); (try subst y_fndI))
  refine aw_lpj hj [(0, .keep), (1, .keep), (7, .keep), (8, .keep)] [] (fun (i : Int) => stOf 19 [(0, .one (.c ((C.sl (nI l) (iC l))))), (1, .one (.c (vI v))), (7, .one (.c (vI (j.ofNat (nI l))))), (8, .one (.c (vI i)))] []) (fun (i : Int) => nI l - i.toNat) (fun (i : Int) => 0 ≤ i ∧ i ≤ nI l ∧ fndI l v = idxI v (l.drop i.toNat) i) (0) (by generalize @iC = x_iC; generalize @nI = x_nI; generalize @fndI = x_fndI; cbv) ?_ (fun i hI => ?_)
  · exact ⟨by omega, by omega, rfl⟩
  obtain ⟨i1, i2, i3⟩ := hI
  have i4 : ¬ i < nI l → fndI l v = -1 := fun h => by rw [i3, idrop_fin l i h]; rfl
  have i5 : i < nI l → iAt l i.toNat = v → fndI l v = i := fun h e => by rw [i3, idrop_step l i i1 h, idxI, if_pos e]
  have i6 : i < nI l → ¬ iAt l i.toNat = v → fndI l v = idxI v (l.drop (i + 1).toNat) (i + 1) := fun h e => by rw [i3, idrop_step l i i1 h, idxI, if_neg e]
  clear i3
  generalize y_iC : @iC = x_iC at *
  generalize y_nI : @nI = x_nI at *
  generalize y_fndI : @fndI = x_fndI at *
  (repeat' first | ((first | with_reducible refine tr_cut (fun h => ?_) (fun h => ?_) | refine aw_condj (by cbv) (fun h => ?_) (fun h => ?_)) <;> (try simp (disch := omega) only [hj, std, cmpI, cmpB, satB, Bool.not_eq_true, Bool.not_eq_false, decide_eq_true_eq, decide_eq_false_iff_not, beq_iff_eq, bne_iff_ne, bne_eq_false_iff_eq, beq_eq_false_iff_ne, ne_eq, reduceCtorEq, not_true_eq_false, not_false_eq_true, pl0, if_true, cmpS_eq, cmpS_neq, Bool.not_eq_eq_eq_not, Bool.not_true, Bool.not_false, Bool.not_eq_true', add64, sub64] at h) <;> (try (exfalso; omega))) | (with_reducible refine tr_alt (fun h => ?_) ?_ <;> (try (exfalso; omega))) | (with_reducible refine tr_ob ?_ ?_) | (with_reducible refine tr_done ?_) | (refine aw_tr hj tok book0 (by cbv) ?_) | (refine aw_seq fun K hK => ?_) | (refine aw_tr1 hj tok book0 (by cbv) ?_) | (refine aw_skip ?_) | (refine aw_block ?_) | (refine aw_exit ?_) | (refine aw_ret ⟨.inr rfl, ret_okj hj (by cbv) ?_ ?_⟩) | (refine aw_ret ?_) | (with_reducible refine th_n ?_) | (with_reducible refine th_r ?_) | (with_reducible refine th_x ?_) | (with_reducible refine blk_n ?_) | (with_reducible refine blk_r ?_) | (with_reducible refine blk_x ?_) | (with_reducible refine blk_y rfl ?_) | (refine ⟨.inr rfl, ret_okj hj (by cbv) ?_ ?_⟩) | (refine ⟨.inl rfl, ret_okj hj (by cbv) ?_ ?_⟩) | ((with_reducible refine ⟨(_, _, _, _, _, _, _), by cbv, ?_, ?_⟩)) | ((with_reducible refine ⟨(_, _, _, _, _, _), by cbv, ?_, ?_⟩)) | ((with_reducible refine ⟨(_, _, _, _, _), by cbv, ?_, ?_⟩)) | ((with_reducible refine ⟨(_, _, _, _), by cbv, ?_, ?_⟩)) | ((with_reducible refine ⟨(_, _, _), by cbv, ?_, ?_⟩)) | ((with_reducible refine ⟨(_, _), by cbv, ?_, ?_⟩)) | ((with_reducible refine ⟨_, by cbv, ?_, ?_⟩)) | (with_reducible apply_assumption -symm -exfalso only [*]))
  all_goals ((try subst y_iC); (try subst y_nI); (try subst y_fndI))
  all_goals (try have q := ‹v = gi (cellAt (iC l) _)›)
  all_goals (try have q := ‹¬ v = gi (cellAt (iC l) _)›)
  all_goals (try rw [gi_iC] at q)
  all_goals (try (repeat' first | with_reducible exact obl0 | with_reducible refine obl1 ?_ ?_))
  all_goals (try first | with_reducible exact True.intro | ((first | refine ob_le hj ?_ | refine ob_lei hj ?_ | refine ob_inb hj ?_ | refine ob_pos hj ?_ | refine ob_ne0 hj ?_ | refine ob_eqb hj ?_); (first | rfl | first | omega | (simp only [hj, std]; split <;> omega) | (simp (disch := omega) only [hj, std, cmpI, cmpB, satB, add64, sub64, ite0, pl0, pl2, pl3, sb0, if_true, if_false, eq_self, iC_len] <;> omega) | (simp (disch := omega) [hj, std, cmpI, cmpB, satB, add64, sub64, ite0, pl0, pl2, pl3, sb0, if_true, if_false, eq_self, iC_len] <;> omega))) | ((refine ob_ok hj ?_; simp only [hj, std, ite0]; exact ok_iC (by omega))) | ((refine r1i ?_; exact i4 (by omega))) | ((refine r1i ?_; exact i5 (by omega) q.symm)) | ((simp (disch := omega) only [hj, std, add64]; first | omega | exact ⟨by omega, by omega, i6 (by omega) (fun e => q e.symm)⟩)))
theorem pc_IndexBl (l : List Bool) (v : Bool) (hl : nB l ≤ 1000000) : PC Try.prog T 67 [.v false [(C.sl (nB l) (bC l))], .v false [vB v]] (ret1 (.st (vI (fndB l v)))) [] := by
  refine pc_of tok Try.func67 rfl (by rfl) ?_
  obtain ⟨j, hj⟩ : ∃ j : J, j = std Try.prog T := ⟨_, rfl⟩
  have hm : Try.prog.follows .mixedOrders = true := by kernel_rfl
  have nl := nB_eq l
  generalize y_bC : @bC = x_bC at *
  generalize y_nB : @nB = x_nB at *
  generalize y_fndB : @fndB = x_fndB at *
  (repeat' first | ((first | with_reducible refine tr_cut (fun h => ?_) (fun h => ?_) | refine aw_condj (by cbv) (fun h => ?_) (fun h => ?_)) <;> (try simp (disch := omega) only [hj, std, cmpI, cmpB, satB, Bool.not_eq_true, Bool.not_eq_false, decide_eq_true_eq, decide_eq_false_iff_not, beq_iff_eq, bne_iff_ne, bne_eq_false_iff_eq, beq_eq_false_iff_ne, ne_eq, reduceCtorEq, not_true_eq_false, not_false_eq_true, pl0, if_true, cmpS_eq, cmpS_neq, Bool.not_eq_eq_eq_not, Bool.not_true, Bool.not_false, Bool.not_eq_true', add64, sub64] at h) <;> (try (exfalso; omega))) | (with_reducible refine tr_alt (fun h => ?_) ?_ <;> (try (exfalso; omega))) | (with_reducible refine tr_ob ?_ ?_) | (with_reducible refine tr_done ?_) | (refine aw_tr hj tok book0 (by cbv) ?_) | (refine aw_seq fun K hK => ?_) | (refine aw_tr1 hj tok book0 (by cbv) ?_) | (refine aw_skip ?_) | (refine aw_block ?_) | (refine aw_exit ?_) | (refine aw_ret ⟨.inr rfl, ret_okj hj (by cbv) ?_ ?_⟩) | (refine aw_ret ?_) | (with_reducible refine th_n ?_) | (with_reducible refine th_r ?_) | (with_reducible refine th_x ?_) | (with_reducible refine blk_n ?_) | (with_reducible refine blk_r ?_) | (with_reducible refine blk_x ?_) | (with_reducible refine blk_y rfl ?_) | (refine ⟨.inr rfl, ret_okj hj (by cbv) ?_ ?_⟩) | (refine ⟨.inl rfl, ret_okj hj (by cbv) ?_ ?_⟩) | ((with_reducible refine ⟨(_, _, _, _, _, _, _), by cbv, ?_, ?_⟩)) | ((with_reducible refine ⟨(_, _, _, _, _, _), by cbv, ?_, ?_⟩)) | ((with_reducible refine ⟨(_, _, _, _, _), by cbv, ?_, ?_⟩)) | ((with_reducible refine ⟨(_, _, _, _), by cbv, ?_, ?_⟩)) | ((with_reducible refine ⟨(_, _, _), by cbv, ?_, ?_⟩)) | ((with_reducible refine ⟨(_, _), by cbv, ?_, ?_⟩)) | ((with_reducible refine ⟨_, by cbv, ?_, ?_⟩)) | (with_reducible apply_assumption -symm -exfalso only [*]))
  all_goals ((try subst y_bC); (try subst y_nB); (try subst y_fndB))
  refine aw_lpj hj [(0, .keep), (1, .keep), (7, .keep), (8, .keep)] [] (fun (i : Int) => stOf 19 [(0, .one (.c ((C.sl (nB l) (bC l))))), (1, .one (.c (vB v))), (7, .one (.c (vI (j.ofNat (nB l))))), (8, .one (.c (vI i)))] []) (fun (i : Int) => nB l - i.toNat) (fun (i : Int) => 0 ≤ i ∧ i ≤ nB l ∧ fndB l v = idxBl v (l.drop i.toNat) i) (0) (by generalize @bC = x_bC; generalize @nB = x_nB; generalize @fndB = x_fndB; cbv) ?_ (fun i hI => ?_)
  · exact ⟨by omega, by omega, rfl⟩
  obtain ⟨i1, i2, i3⟩ := hI
  have i4 : ¬ i < nB l → fndB l v = -1 := fun h => by rw [i3, bdrop_fin l i h]; rfl
  have i5 : i < nB l → bAt l i.toNat = v → fndB l v = i := fun h e => by rw [i3, bdrop_step l i i1 h, idxBl, if_pos e]
  have i6 : i < nB l → ¬ bAt l i.toNat = v → fndB l v = idxBl v (l.drop (i + 1).toNat) (i + 1) := fun h e => by rw [i3, bdrop_step l i i1 h, idxBl, if_neg e]
  clear i3
  generalize y_bC : @bC = x_bC at *
  generalize y_nB : @nB = x_nB at *
  generalize y_fndB : @fndB = x_fndB at *
  (repeat' first | ((first | with_reducible refine tr_cut (fun h => ?_) (fun h => ?_) | refine aw_condj (by cbv) (fun h => ?_) (fun h => ?_)) <;> (try simp (disch := omega) only [hj, std, cmpI, cmpB, satB, Bool.not_eq_true, Bool.not_eq_false, decide_eq_true_eq, decide_eq_false_iff_not, beq_iff_eq, bne_iff_ne, bne_eq_false_iff_eq, beq_eq_false_iff_ne, ne_eq, reduceCtorEq, not_true_eq_false, not_false_eq_true, pl0, if_true, cmpS_eq, cmpS_neq, Bool.not_eq_eq_eq_not, Bool.not_true, Bool.not_false, Bool.not_eq_true', add64, sub64] at h) <;> (try (exfalso; omega))) | (with_reducible refine tr_alt (fun h => ?_) ?_ <;> (try (exfalso; omega))) | (with_reducible refine tr_ob ?_ ?_) | (with_reducible refine tr_done ?_) | (refine aw_tr hj tok book0 (by cbv) ?_) | (refine aw_seq fun K hK => ?_) | (refine aw_tr1 hj tok book0 (by cbv) ?_) | (refine aw_skip ?_) | (refine aw_block ?_) | (refine aw_exit ?_) | (refine aw_ret ⟨.inr rfl, ret_okj hj (by cbv) ?_ ?_⟩) | (refine aw_ret ?_) | (with_reducible refine th_n ?_) | (with_reducible refine th_r ?_) | (with_reducible refine th_x ?_) | (with_reducible refine blk_n ?_) | (with_reducible refine blk_r ?_) | (with_reducible refine blk_x ?_) | (with_reducible refine blk_y rfl ?_) | (refine ⟨.inr rfl, ret_okj hj (by cbv) ?_ ?_⟩) | (refine ⟨.inl rfl, ret_okj hj (by cbv) ?_ ?_⟩) | ((with_reducible refine ⟨(_, _, _, _, _, _, _), by cbv, ?_, ?_⟩)) | ((with_reducible refine ⟨(_, _, _, _, _, _), by cbv, ?_, ?_⟩)) | ((with_reducible refine ⟨(_, _, _, _, _), by cbv, ?_, ?_⟩)) | ((with_reducible refine ⟨(_, _, _, _), by cbv, ?_, ?_⟩)) | ((with_reducible refine ⟨(_, _, _), by cbv, ?_, ?_⟩)) | ((with_reducible refine ⟨(_, _), by cbv, ?_, ?_⟩)) | ((with_reducible refine ⟨_, by cbv, ?_, ?_⟩)) | (with_reducible apply_assumption -symm -exfalso only [*]))
  all_goals ((try subst y_bC); (try subst y_nB); (try subst y_fndB))
  all_goals (try have q := ‹v = gb (cellAt (bC l) _)›)
  all_goals (try have q := ‹¬ v = gb (cellAt (bC l) _)›)
  all_goals (try rw [gb_bC] at q)
  all_goals (try (repeat' first | with_reducible exact obl0 | with_reducible refine obl1 ?_ ?_))
  all_goals (try first | with_reducible exact True.intro | ((first | refine ob_le hj ?_ | refine ob_lei hj ?_ | refine ob_inb hj ?_ | refine ob_pos hj ?_ | refine ob_ne0 hj ?_ | refine ob_eqb hj ?_); (first | rfl | first | omega | (simp only [hj, std]; split <;> omega) | (simp (disch := omega) only [hj, std, cmpI, cmpB, satB, add64, sub64, ite0, pl0, pl2, pl3, sb0, if_true, if_false, eq_self, bC_len] <;> omega) | (simp (disch := omega) [hj, std, cmpI, cmpB, satB, add64, sub64, ite0, pl0, pl2, pl3, sb0, if_true, if_false, eq_self, bC_len] <;> omega))) | ((refine ob_ok hj ?_; simp only [hj, std, ite0]; exact ok_bC (by omega))) | ((refine r1i ?_; exact i4 (by omega))) | ((refine r1i ?_; exact i5 (by omega) q.symm)) | ((simp (disch := omega) only [hj, std, add64]; first | omega | exact ⟨by omega, by omega, i6 (by omega) (fun e => q e.symm)⟩)))
def bookIx (x_intsOf : List C → List Int) (x_fndI : List Int → Int → Int) (x_fndB : List Bool → Bool → Int) : Book := fun f xs => match f, xs with
  | 96, [.v false [.sl _ cs], .v false [.val (.int .i64 v)]] => some (ret1 (.st (vI (x_fndI (x_intsOf cs) v))))
  | 67, [.v false [.sl _ cs], .v false [.val (.bool v)]] => some (ret1 (.st (vI (x_fndB (boolsOf cs) v))))
  | _, _ => none
end Go.Proofs.Ytdmdcmhgfgookaa.A

/- Grammars that are well made: what is wrong with one. -/
set_option linter.unusedSimpArgs false
set_option linter.unusedVariables false
set_option maxRecDepth 100000
set_option maxHeartbeats 4000000
namespace Go.Proofs.Ytdmdcmhgfgookaa.A
open Go
theorem c_IdxI {l : List Int} {v : Int} (hl : nI l ≤ 1000000) : pc 96 [.v false [(C.sl (nI l) (iC l))], .v false [vI v]] (ret1 (.st (vI (fndI (intsOf (iC l)) v)))) := by
  rw [intsOf_iC]
  exact ⟨enters Try.func96 (by kernel_rfl) (by kernel_rfl), pc_IndexI l v hl⟩
theorem c_IdxBl {l : List Bool} {v : Bool} (hl : nB l ≤ 1000000) : pc 67 [.v false [(C.sl (nB l) (bC l))], .v false [vB v]] (ret1 (.st (vI (fndB (boolsOf (bC l)) v)))) := by
  rw [boolsOf_bC]
  exact ⟨enters Try.func67 (by kernel_rfl) (by kernel_rfl), pc_IndexBl l v hl⟩
theorem c_ContI {l : List Int} {v : Int} {n : Nat} {cs : List C} (h1 : n = nI l) (h2 : cs = iC l) (hl : nI l ≤ 1000000) : pc 68 [.v false [.sl n cs], .v false [vI v]] (ret1 (.st (vB (hasI (intsOf cs) v)))) := by
  subst h1; subst h2
  refine ⟨enters Try.func68 (by kernel_rfl) (by kernel_rfl), pc_of tok Try.func68 rfl (by rfl) ?_⟩
  obtain ⟨j, hj⟩ : ∃ j : J, j = std Try.prog T := ⟨_, rfl⟩
  have hm : Try.prog.follows .mixedOrders = true := by kernel_rfl
  generalize y_intsOf : @intsOf = x_intsOf at *
  generalize y_fndI : @fndI = x_fndI at *
  generalize y_fndB : @fndB = x_fndB at *
  generalize y_iC : @iC = x_iC at *
  generalize y_nI : @nI = x_nI at *
  generalize y_hasI : @hasI = x_hasI at *
  (repeat' first | ((first | with_reducible refine tr_cut (fun h => ?_) (fun h => ?_) | refine aw_condj (by cbv) (fun h => ?_) (fun h => ?_)) <;> (try simp (disch := omega) only [hj, std, cmpI, cmpB, satB, Bool.not_eq_true, Bool.not_eq_false, decide_eq_true_eq, decide_eq_false_iff_not, beq_iff_eq, bne_iff_ne, bne_eq_false_iff_eq, beq_eq_false_iff_ne, ne_eq, reduceCtorEq, not_true_eq_false, not_false_eq_true, pl0, if_true, cmpS_eq, cmpS_neq, Bool.not_eq_eq_eq_not, Bool.not_true, Bool.not_false, Bool.not_eq_true', add64, sub64] at h) <;> (try (exfalso; omega))) | (with_reducible refine tr_alt (fun h => ?_) ?_ <;> (try (exfalso; omega))) | (with_reducible refine tr_ob ?_ ?_) | (with_reducible refine tr_done ?_) | (refine aw_tr hj tok (bookIx x_intsOf x_fndI x_fndB) (by cbv) ?_) | (refine aw_seq fun K hK => ?_) | (refine aw_tr1 hj tok (bookIx x_intsOf x_fndI x_fndB) (by cbv) ?_) | (refine aw_skip ?_) | (refine aw_block ?_) | (refine aw_exit ?_) | (refine aw_ret ⟨.inr rfl, ret_okj hj (by cbv) ?_ ?_⟩) | (refine aw_ret ?_) | (with_reducible refine th_n ?_) | (with_reducible refine th_r ?_) | (with_reducible refine th_x ?_) | (with_reducible refine blk_n ?_) | (with_reducible refine blk_r ?_) | (with_reducible refine blk_x ?_) | (with_reducible refine blk_y rfl ?_) | (refine ⟨.inr rfl, ret_okj hj (by cbv) ?_ ?_⟩) | (refine ⟨.inl rfl, ret_okj hj (by cbv) ?_ ?_⟩) | ((with_reducible refine ⟨(_, _, _, _, _, _, _), by cbv, ?_, ?_⟩)) | ((with_reducible refine ⟨(_, _, _, _, _, _), by cbv, ?_, ?_⟩)) | ((with_reducible refine ⟨(_, _, _, _, _), by cbv, ?_, ?_⟩)) | ((with_reducible refine ⟨(_, _, _, _), by cbv, ?_, ?_⟩)) | ((with_reducible refine ⟨(_, _, _), by cbv, ?_, ?_⟩)) | ((with_reducible refine ⟨(_, _), by cbv, ?_, ?_⟩)) | ((with_reducible refine ⟨_, by cbv, ?_, ?_⟩)) | (with_reducible apply_assumption -symm -exfalso only [*]))
  all_goals ((try subst y_intsOf); (try subst y_fndI); (try subst y_fndB); (try subst y_iC); (try subst y_nI); (try subst y_hasI))
  all_goals (try (repeat' first | with_reducible exact obl0 | with_reducible refine obl1 ?_ ?_))
  all_goals (try first | with_reducible exact True.intro | (refine ob_pc hj ?_; (try rw [hj]); first | exact c_IdxI hl) | (refine ob_pcn hj ?_; (try rw [hj]); first | exact c_IdxI hl) | ((first | refine ob_le hj ?_ | refine ob_lei hj ?_ | refine ob_inb hj ?_ | refine ob_pos hj ?_ | refine ob_ne0 hj ?_ | refine ob_eqb hj ?_); (first | rfl | first | omega | (simp only [hj, std]; split <;> omega) | (simp (disch := omega) only [hj, std, cmpI, cmpB, satB, add64, sub64, ite0, pl0, pl2, pl3, sb0, if_true, if_false, eq_self] <;> omega) | (simp (disch := omega) [hj, std, cmpI, cmpB, satB, add64, sub64, ite0, pl0, pl2, pl3, sb0, if_true, if_false, eq_self] <;> omega))) | ((refine r1b ?_; rw [hj]; exact (idxI_has v (intsOf (iC l)) 0 (by omega)).symm)))
theorem c_ContBl {l : List Bool} {v : Bool} {n : Nat} {cs : List C} (h1 : n = nB l) (h2 : cs = bC l) (hl : nB l ≤ 1000000) : pc 35 [.v false [.sl n cs], .v false [vB v]] (ret1 (.st (vB (hasBl (boolsOf cs) v)))) := by
  subst h1; subst h2
  refine ⟨enters Try.func35 (by kernel_rfl) (by kernel_rfl), pc_of tok Try.func35 rfl (by rfl) ?_⟩
  obtain ⟨j, hj⟩ : ∃ j : J, j = std Try.prog T := ⟨_, rfl⟩
  have hm : Try.prog.follows .mixedOrders = true := by kernel_rfl
  generalize y_intsOf : @intsOf = x_intsOf at *
  generalize y_fndI : @fndI = x_fndI at *
  generalize y_fndB : @fndB = x_fndB at *
  generalize y_bC : @bC = x_bC at *
  generalize y_nB : @nB = x_nB at *
  generalize y_hasBl : @hasBl = x_hasBl at *
  (repeat' first | ((first | with_reducible refine tr_cut (fun h => ?_) (fun h => ?_) | refine aw_condj (by cbv) (fun h => ?_) (fun h => ?_)) <;> (try simp (disch := omega) only [hj, std, cmpI, cmpB, satB, Bool.not_eq_true, Bool.not_eq_false, decide_eq_true_eq, decide_eq_false_iff_not, beq_iff_eq, bne_iff_ne, bne_eq_false_iff_eq, beq_eq_false_iff_ne, ne_eq, reduceCtorEq, not_true_eq_false, not_false_eq_true, pl0, if_true, cmpS_eq, cmpS_neq, Bool.not_eq_eq_eq_not, Bool.not_true, Bool.not_false, Bool.not_eq_true', add64, sub64] at h) <;> (try (exfalso; omega))) | (with_reducible refine tr_alt (fun h => ?_) ?_ <;> (try (exfalso; omega))) | (with_reducible refine tr_ob ?_ ?_) | (with_reducible refine tr_done ?_) | (refine aw_tr hj tok (bookIx x_intsOf x_fndI x_fndB) (by cbv) ?_) | (refine aw_seq fun K hK => ?_) | (refine aw_tr1 hj tok (bookIx x_intsOf x_fndI x_fndB) (by cbv) ?_) | (refine aw_skip ?_) | (refine aw_block ?_) | (refine aw_exit ?_) | (refine aw_ret ⟨.inr rfl, ret_okj hj (by cbv) ?_ ?_⟩) | (refine aw_ret ?_) | (with_reducible refine th_n ?_) | (with_reducible refine th_r ?_) | (with_reducible refine th_x ?_) | (with_reducible refine blk_n ?_) | (with_reducible refine blk_r ?_) | (with_reducible refine blk_x ?_) | (with_reducible refine blk_y rfl ?_) | (refine ⟨.inr rfl, ret_okj hj (by cbv) ?_ ?_⟩) | (refine ⟨.inl rfl, ret_okj hj (by cbv) ?_ ?_⟩) | ((with_reducible refine ⟨(_, _, _, _, _, _, _), by cbv, ?_, ?_⟩)) | ((with_reducible refine ⟨(_, _, _, _, _, _), by cbv, ?_, ?_⟩)) | ((with_reducible refine ⟨(_, _, _, _, _), by cbv, ?_, ?_⟩)) | ((with_reducible refine ⟨(_, _, _, _), by cbv, ?_, ?_⟩)) | ((with_reducible refine ⟨(_, _, _), by cbv, ?_, ?_⟩)) | ((with_reducible refine ⟨(_, _), by cbv, ?_, ?_⟩)) | ((with_reducible refine ⟨_, by cbv, ?_, ?_⟩)) | (with_reducible apply_assumption -symm -exfalso only [*]))
  all_goals ((try subst y_intsOf); (try subst y_fndI); (try subst y_fndB); (try subst y_bC); (try subst y_nB); (try subst y_hasBl))
  all_goals (try (repeat' first | with_reducible exact obl0 | with_reducible refine obl1 ?_ ?_))
  all_goals (try first | with_reducible exact True.intro | (refine ob_pc hj ?_; (try rw [hj]); first | exact c_IdxBl hl) | (refine ob_pcn hj ?_; (try rw [hj]); first | exact c_IdxBl hl) | ((first | refine ob_le hj ?_ | refine ob_lei hj ?_ | refine ob_inb hj ?_ | refine ob_pos hj ?_ | refine ob_ne0 hj ?_ | refine ob_eqb hj ?_); (first | rfl | first | omega | (simp only [hj, std]; split <;> omega) | (simp (disch := omega) only [hj, std, cmpI, cmpB, satB, add64, sub64, ite0, pl0, pl2, pl3, sb0, if_true, if_false, eq_self] <;> omega) | (simp (disch := omega) [hj, std, cmpI, cmpB, satB, add64, sub64, ite0, pl0, pl2, pl3, sb0, if_true, if_false, eq_self] <;> omega))) | ((refine r1b ?_; rw [hj]; exact (idxBl_has v (boolsOf (bC l)) 0 (by omega)).symm)))
def bookTe (x_intsOf : List C → List Int) (x_isTm : Int → Bool) (x_hasI : List Int → Int → Bool) : Book := fun f xs => match f, xs with
  | 44, [.v false [.val (.int .i64 s)]] => some (ret1 (.st (vB (x_isTm s))))
  | 68, [.v false [.sl _ cs], .v false [.val (.int .i64 v)]] => some (ret1 (.st (vB (x_hasI (x_intsOf cs) v))))
  | _, _ => none
/-- was a symbol met ? -/
def metIn (rs : List Rl) (i : Int) (x : Int) : Prop := ∃ r ∈ rs.take i.toNat, x ∈ r.2
theorem metIn_next {rs : List Rl} {i : Int} {x : Int} (h0 : 0 ≤ i) (h : i < nR rs) : metIn rs (i + 1) x ↔ metIn rs i x ∨ x ∈ (rAt rs i.toNat).2 := by
  have hn := nR_eq rs
  unfold metIn
  rw [show (i + 1).toNat = i.toNat + 1 by omega, take_snoc (0, []) (by omega)]
  simp only [List.mem_append, List.mem_singleton]
  constructor
  · rintro ⟨r, hr | rfl, hx⟩
    · exact .inl ⟨r, hr, hx⟩
    · exact .inr hx
  · rintro (⟨r, hr, hx⟩ | hx)
    · exact ⟨r, .inl hr, hx⟩
    · exact ⟨_, .inr rfl, hx⟩
theorem terms_end {L : List Int} {ts : List ByteArray} {rs : List Rl} {b i : Int} (h : Seen L (nS ts) (metIn rs i) b) (hi : ¬ i < nR rs) : (!hasI L 0) = termsG ts rs := by
  have hn := nR_eq rs
  rw [Bool.eq_iff_iff, Bool.not_eq_true']
  unfold hasI termsG
  rw [List.any_eq_false, List.all_eq_true]
  have hmet : ∀ x, metIn rs i x ↔ ∃ r ∈ rs, x ∈ r.2 := fun x => by unfold metIn; rw [List.take_of_length_le (by omega)]
  constructor
  · intro h1 t ht
    rw [List.mem_range] at ht
    obtain ⟨h2, h3, h4⟩ := h.2 t ht
    have h5 : iAt L t ∈ L := iAt_mem L t (by omega) (by rw [nI_eq, h.1]; omega)
    have h6 := h1 _ h5
    simp only [decide_eq_true_eq] at h6
    have h7 : metIn rs i (-1 - (t : Int)) := Classical.byContradiction fun hh => h6 (h4.2 hh)
    obtain ⟨r, hr, hx⟩ := (hmet _).1 h7
    exact List.any_eq_true.2 ⟨r, hr, List.any_eq_true.2 ⟨_, hx, by simp⟩⟩
  · intro h1 x hx
    obtain ⟨t, ht, rfl⟩ := List.mem_iff_getElem.1 hx
    obtain ⟨h2, h3, h4⟩ := h.2 t (by rw [← h.1]; exact ht)
    have e : iAt L t = L[t] := by rw [iAt, List.getD_eq_getElem?_getD, List.getElem?_eq_getElem ht]; rfl
    rw [e] at h4
    simp only [decide_eq_true_eq]
    intro h5
    have h6 := h1 t (List.mem_range.2 (by rw [← h.1]; exact ht))
    obtain ⟨r, hr, h7⟩ := List.any_eq_true.1 h6
    obtain ⟨s, hs, h8⟩ := List.any_eq_true.1 h7
    simp only [decide_eq_true_eq] at h8
    exact h4.1 h5 ((hmet _).2 ⟨r, hr, by rw [← h8]; exact hs⟩)
theorem pc_terms (ns ts : List ByteArray) (rs : List Rl) (hS : Sml ns ts rs) (hv : validG ns ts rs = true) : PC Try.prog T 36 [.v true [(C.sl (nS ns) (sC ns)), (C.sl (nS ts) (sC ts)), (C.sl (nR rs) (rC rs))]] (ret1 (.st (vB (termsG ts rs)))) [] := by
  have ha := hS.n; have hb := hS.t; have hc := hS.r
  have nr := nR_eq rs
  refine pc_of tok Try.func36 rfl (by rfl) ?_
  obtain ⟨j, hj⟩ : ∃ j : J, j = std Try.prog T := ⟨_, rfl⟩
  have hm : Try.prog.follows .mixedOrders = true := by kernel_rfl
  generalize y_intsOf : @intsOf = x_intsOf at *
  generalize y_isTm : @isTm = x_isTm at *
  generalize y_hasI : @hasI = x_hasI at *
  generalize y_rC : @rC = x_rC at *
  generalize y_nR : @nR = x_nR at *
  generalize y_validG : @validG = x_validG at *
  generalize y_sC : @sC = x_sC at *
  generalize y_iC : @iC = x_iC at *
  generalize y_nS : @nS = x_nS at *
  generalize y_nI : @nI = x_nI at *
  generalize y_termsG : @termsG = x_termsG at *
  (repeat' first | ((first | with_reducible refine tr_cut (fun h => ?_) (fun h => ?_) | refine aw_condj (by cbv) (fun h => ?_) (fun h => ?_)) <;> (try simp (disch := omega) only [hj, std, cmpI, cmpB, satB, Bool.not_eq_true, Bool.not_eq_false, decide_eq_true_eq, decide_eq_false_iff_not, beq_iff_eq, bne_iff_ne, bne_eq_false_iff_eq, beq_eq_false_iff_ne, ne_eq, reduceCtorEq, not_true_eq_false, not_false_eq_true, pl0, if_true, cmpS_eq, cmpS_neq, Bool.not_eq_eq_eq_not, Bool.not_true, Bool.not_false, Bool.not_eq_true', add64, sub64] at h) <;> (try (exfalso; omega))) | (with_reducible refine tr_alt (fun h => ?_) ?_ <;> (try (exfalso; omega))) | (with_reducible refine tr_ob ?_ ?_) | (with_reducible refine tr_done ?_) | (refine aw_tr hj tok (bookTe x_intsOf x_isTm x_hasI) (by cbv) ?_) | (refine aw_seq fun K hK => ?_) | (refine aw_tr1 hj tok (bookTe x_intsOf x_isTm x_hasI) (by cbv) ?_) | (refine aw_skip ?_) | (refine aw_block ?_) | (refine aw_exit ?_) | (refine aw_ret ⟨.inr rfl, ret_okj hj (by cbv) ?_ ?_⟩) | (refine aw_ret ?_) | (with_reducible refine th_n ?_) | (with_reducible refine th_r ?_) | (with_reducible refine th_x ?_) | (with_reducible refine blk_n ?_) | (with_reducible refine blk_r ?_) | (with_reducible refine blk_x ?_) | (with_reducible refine blk_y rfl ?_) | (refine ⟨.inr rfl, ret_okj hj (by cbv) ?_ ?_⟩) | (refine ⟨.inl rfl, ret_okj hj (by cbv) ?_ ?_⟩) | ((with_reducible refine ⟨(_, _, _, _, _, _, _), by cbv, ?_, ?_⟩)) | ((with_reducible refine ⟨(_, _, _, _, _, _), by cbv, ?_, ?_⟩)) | ((with_reducible refine ⟨(_, _, _, _, _), by cbv, ?_, ?_⟩)) | ((with_reducible refine ⟨(_, _, _, _), by cbv, ?_, ?_⟩)) | ((with_reducible refine ⟨(_, _, _), by cbv, ?_, ?_⟩)) | ((with_reducible refine ⟨(_, _), by cbv, ?_, ?_⟩)) | ((with_reducible refine ⟨_, by cbv, ?_, ?_⟩)) | (with_reducible apply_assumption -symm -exfalso only [*]))
  all_goals ((try subst y_intsOf); (try subst y_isTm); (try subst y_hasI); (try subst y_rC); (try subst y_nR); (try subst y_validG); (try subst y_sC); (try subst y_iC); (try subst y_nS); (try subst y_nI); (try subst y_termsG))
  all_goals (try (repeat' first | with_reducible exact obl0 | with_reducible refine obl1 ?_ ?_))
  all_goals (try first | with_reducible exact True.intro | ((first | refine ob_le hj ?_ | refine ob_lei hj ?_ | refine ob_inb hj ?_ | refine ob_pos hj ?_ | refine ob_ne0 hj ?_ | refine ob_eqb hj ?_); (first | rfl | first | omega | (simp only [hj, std]; split <;> omega) | (simp (disch := omega) only [hj, std, cmpI, cmpB, satB, add64, sub64, ite0, pl0, pl2, pl3, sb0, if_true, if_false, eq_self] <;> omega) | (simp (disch := omega) [hj, std, cmpI, cmpB, satB, add64, sub64, ite0, pl0, pl2, pl3, sb0, if_true, if_false, eq_self] <;> omega))))
  refine aw_lpj hj [(3, .own intT), (13, .keep), (14, .keep), (15, .keep)] [] (fun (⟨i, m, cs⟩ : Int × Nat × (List C)) => stOf 40 [(3, .one (.view 3 0)), (13, .one (.c ((C.sl (nR rs) (rC rs))))), (14, .one (.c (vI (j.ofNat (nR rs))))), (15, .one (.c (vI i)))] [(3, .loose [.own intT m cs])]) (fun (⟨i, m, cs⟩ : Int × Nat × (List C)) => nR rs - i.toNat) (fun (⟨i, m, cs⟩ : Int × Nat × (List C)) => 0 ≤ i ∧ i ≤ nR rs ∧ m = nS ts ∧ ∃ L : List Int, cs = iC L ∧ Seen L (nS ts) (metIn rs i) (i * 64)) ((0, j.toNat (j.ofNat (nS ts)), j.rep (j.toNat (j.ofNat (nS ts))) [.val (.int .i64 0)])) (by generalize @intsOf = x_intsOf; generalize @isTm = x_isTm; generalize @hasI = x_hasI; generalize @rC = x_rC; generalize @nR = x_nR; generalize @validG = x_validG; generalize @sC = x_sC; generalize @iC = x_iC; generalize @nS = x_nS; generalize @nI = x_nI; generalize @termsG = x_termsG; cbv) ?_ (fun ⟨i, m, cs⟩ hI => ?_)
  · refine ⟨by omega, by omega, by rw [hj]; rfl, List.replicate (nS ts) 0, ?_, ?_⟩
    · rw [hj]; exact iC_rep _ _
    · exact seen_mono (seen_new _) (by omega) (fun t _ => by simp [metIn])
  obtain ⟨i1, i2, rfl, L, rfl, l1⟩ := hI
  have e1 : gi (cellAt (rC rs) (i.toNat * 2)) = (rAt rs i.toNat).1 := gi_rC _ _
  have e2 : gn (cellAt (rC rs) (i.toNat * 2 + 1)) = nI (rAt rs i.toNat).2 := gn_rC _ _
  have e3 : gc (cellAt (rC rs) (i.toNat * 2 + 1)) = iC (rAt rs i.toNat).2 := gc_rC _ _
  have nL := nI_eq L
  have hL : nI L = nS ts := by rw [nL]; exact l1.1
  have hend : ¬ i < nR rs → (!hasI L 0) = termsG ts rs := fun h => terms_end l1 h
  generalize y_intsOf : @intsOf = x_intsOf at *
  generalize y_isTm : @isTm = x_isTm at *
  generalize y_hasI : @hasI = x_hasI at *
  generalize y_rC : @rC = x_rC at *
  generalize y_nR : @nR = x_nR at *
  generalize y_validG : @validG = x_validG at *
  generalize y_sC : @sC = x_sC at *
  generalize y_iC : @iC = x_iC at *
  generalize y_nS : @nS = x_nS at *
  generalize y_nI : @nI = x_nI at *
  generalize y_termsG : @termsG = x_termsG at *
  (repeat' first | ((first | with_reducible refine tr_cut (fun h => ?_) (fun h => ?_) | refine aw_condj (by cbv) (fun h => ?_) (fun h => ?_)) <;> (try simp (disch := omega) only [hj, std, cmpI, cmpB, satB, Bool.not_eq_true, Bool.not_eq_false, decide_eq_true_eq, decide_eq_false_iff_not, beq_iff_eq, bne_iff_ne, bne_eq_false_iff_eq, beq_eq_false_iff_ne, ne_eq, reduceCtorEq, not_true_eq_false, not_false_eq_true, pl0, if_true, cmpS_eq, cmpS_neq, Bool.not_eq_eq_eq_not, Bool.not_true, Bool.not_false, Bool.not_eq_true', add64, sub64] at h) <;> (try (exfalso; omega))) | (with_reducible refine tr_alt (fun h => ?_) ?_ <;> (try (exfalso; omega))) | (with_reducible refine tr_ob ?_ ?_) | (with_reducible refine tr_done ?_) | (refine aw_tr hj tok (bookTe x_intsOf x_isTm x_hasI) (by cbv) ?_) | (refine aw_seq fun K hK => ?_) | (refine aw_tr1 hj tok (bookTe x_intsOf x_isTm x_hasI) (by cbv) ?_) | (refine aw_skip ?_) | (refine aw_block ?_) | (refine aw_exit ?_) | (refine aw_ret ⟨.inr rfl, ret_okj hj (by cbv) ?_ ?_⟩) | (refine aw_ret ?_) | (with_reducible refine th_n ?_) | (with_reducible refine th_r ?_) | (with_reducible refine th_x ?_) | (with_reducible refine blk_n ?_) | (with_reducible refine blk_r ?_) | (with_reducible refine blk_x ?_) | (with_reducible refine blk_y rfl ?_) | (refine ⟨.inr rfl, ret_okj hj (by cbv) ?_ ?_⟩) | (refine ⟨.inl rfl, ret_okj hj (by cbv) ?_ ?_⟩) | ((with_reducible refine ⟨(_, _, _, _, _, _, _), by cbv, ?_, ?_⟩)) | ((with_reducible refine ⟨(_, _, _, _, _, _), by cbv, ?_, ?_⟩)) | ((with_reducible refine ⟨(_, _, _, _, _), by cbv, ?_, ?_⟩)) | ((with_reducible refine ⟨(_, _, _, _), by cbv, ?_, ?_⟩)) | ((with_reducible refine ⟨(_, _, _), by cbv, ?_, ?_⟩)) | ((with_reducible refine ⟨(_, _), by cbv, ?_, ?_⟩)) | ((with_reducible refine ⟨_, by cbv, ?_, ?_⟩)) | (with_reducible apply_assumption -symm -exfalso only [*]))
  all_goals ((try subst y_intsOf); (try subst y_isTm); (try subst y_hasI); (try subst y_rC); (try subst y_nR); (try subst y_validG); (try subst y_sC); (try subst y_iC); (try subst y_nS); (try subst y_nI); (try subst y_termsG))
  all_goals (try (repeat' first | with_reducible exact obl0 | with_reducible refine obl1 ?_ ?_))
  all_goals (try first | with_reducible exact True.intro | (refine ob_pc hj ?_; (try rw [hj]); first | exact c_ContI (l := L) hL.symm rfl (by omega)) | (refine ob_pcn hj ?_; (try rw [hj]); first | exact c_ContI (l := L) hL.symm rfl (by omega)) | ((first | refine ob_le hj ?_ | refine ob_lei hj ?_ | refine ob_inb hj ?_ | refine ob_pos hj ?_ | refine ob_ne0 hj ?_ | refine ob_eqb hj ?_); (first | rfl | first | omega | (simp only [hj, std]; split <;> omega) | (simp (disch := omega) only [hj, std, cmpI, cmpB, satB, add64, sub64, ite0, pl0, pl2, pl3, sb0, if_true, if_false, eq_self, rC_len] <;> omega) | (simp (disch := omega) [hj, std, cmpI, cmpB, satB, add64, sub64, ite0, pl0, pl2, pl3, sb0, if_true, if_false, eq_self, rC_len] <;> omega))) | ((refine ob_ok hj ?_; simp only [hj, std, ite0]; first | exact ok_rC1 (by omega) | exact ok_rC0 (by omega))) | ((refine ob_vals hj ?_; exact iC_vals _)) | ((refine r1b ?_; rw [← hend (by omega), intsOf_iC, hj]; rfl)))
  have hil : i < nR rs := by assumption
  obtain ⟨f1, f2, f3, f4⟩ := fit_of ((validG_iff.1 hv).2.2.2.1 _ (rAt_mem rs i i1 hil))
  have hnx : ∀ x, metIn rs (i + 1) x ↔ metIn rs i x ∨ x ∈ (rAt rs i.toNat).2 := fun x => metIn_next i1 hil
  generalize hRl : (rAt rs i.toNat).2 = R at *
  clear hRl
  have nR2 := nI_eq R
  refine aw_lpj hj [(3, .own intT), (13, .keep), (14, .keep), (15, .keep), (20, .keep), (21, .keep), (22, .keep)] [] (fun (⟨k, cs, n, ds⟩ : Int × (List C) × Nat × (List C)) => stOf 40 [(3, .one (.view 3 0)), (13, .one (.c ((C.sl (nR rs) (rC rs))))), (14, .one (.c (vI (j.ofNat (nR rs))))), (15, .one (.c (vI i))), (20, .one (.c (.sl n ds))), (21, .one (.c (vI (j.ofNat n)))), (22, .one (.c (vI k)))] [(3, .loose [.own intT (nS ts) cs])]) (fun (⟨k, cs, n, ds⟩ : Int × (List C) × Nat × (List C)) => nI R - k.toNat) (fun (⟨k, cs, n, ds⟩ : Int × (List C) × Nat × (List C)) => 0 ≤ k ∧ k ≤ nI R ∧ n = nI R ∧ ds = iC R ∧ ∃ L : List Int, cs = iC L ∧ Seen L (nS ts) (fun x => metIn rs i x ∨ x ∈ R.take k.toNat) (i * 64 + k)) ((0, iC L, j.gn (j.cell (rC rs) (j.add (j.mul (j.toNat i) 2) 1)), j.gc (j.cell (rC rs) (j.add (j.mul (j.toNat i) 2) 1)))) (by generalize @intsOf = x_intsOf; generalize @isTm = x_isTm; generalize @hasI = x_hasI; generalize @rC = x_rC; generalize @nR = x_nR; generalize @validG = x_validG; generalize @sC = x_sC; generalize @iC = x_iC; generalize @nS = x_nS; generalize @nI = x_nI; generalize @termsG = x_termsG; cbv) ?_ (fun ⟨k, cs, n, ds⟩ hI => ?_)
  · refine ⟨by omega, by omega, ?_, ?_, L, rfl, seen_mono l1 (by omega) (fun t _ => by simp)⟩
    · rw [hj]; exact e2
    · rw [hj]; exact e3
  obtain ⟨k1, k2, rfl, rfl, M, rfl, m1⟩ := hI
  have nM := nI_eq M
  have hM : nI M = nS ts := by rw [nM]; exact m1.1
  have e4 : gi (cellAt (iC R) k.toNat) = iAt R k.toNat := gi_iC _ _
  have htk : k < nI R → R.take (k + 1).toNat = R.take k.toNat ++ [iAt R k.toNat] := fun h => by rw [show (k + 1).toNat = k.toNat + 1 by omega]; exact take_snoc 0 (by omega)
  have hfit : k < nI R → -(nS ts : Int) ≤ iAt R k.toNat := fun h => (f4 _ (iAt_mem R k k1 h)).2
  have hcnt : k < nI R → iAt R k.toNat < 0 → gi (cellAt (iC M) (-1 - iAt R k.toNat).toNat) = iAt M (-1 - iAt R k.toNat).toNat ∧ 0 ≤ iAt M (-1 - iAt R k.toNat).toNat ∧ iAt M (-1 - iAt R k.toNat).toNat ≤ i * 64 + k := fun h h2 => by
    have := m1.2 (-1 - iAt R k.toNat).toNat (by have := hfit h; omega)
    exact ⟨gi_iC _ _, this.1, this.2.1⟩
  have hbump : k < nI R → iAt R k.toNat < 0 → Seen (M.set (-1 - iAt R k.toNat).toNat (iAt M (-1 - iAt R k.toNat).toNat + 1)) (nS ts) (fun x => metIn rs i x ∨ x ∈ R.take (k + 1).toNat) (i * 64 + (k + 1)) := fun h h2 =>
    seen_mono (seen_bump m1 h2 (by have := hfit h; omega)) (by omega) (fun t _ => by rw [htk h, List.mem_append, List.mem_singleton, or_assoc])
  have hskip : k < nI R → ¬ iAt R k.toNat < 0 → Seen M (nS ts) (fun x => metIn rs i x ∨ x ∈ R.take (k + 1).toNat) (i * 64 + (k + 1)) := fun h h2 =>
    seen_mono m1 (by omega) (fun t _ => by
      rw [htk h, List.mem_append, List.mem_singleton]
      constructor
      · rintro (h3 | h3)
        · exact .inl h3
        · exact .inr (.inl h3)
      · rintro (h3 | h3 | h3)
        · exact .inl h3
        · exact .inr h3
        · omega)
  have hfin : ¬ k < nI R → Seen M (nS ts) (metIn rs (i + 1)) ((i + 1) * 64) := fun h => seen_mono m1 (by omega) (fun t _ => by rw [hnx, List.take_of_length_le (by omega)])
  have hset : ∀ (a : Nat) (v : Int), a < M.length → setC (iC M) a [vI v] = iC (M.set a v) := fun a v h => iC_set M v h
  generalize y_intsOf : @intsOf = x_intsOf at *
  generalize y_isTm : @isTm = x_isTm at *
  generalize y_hasI : @hasI = x_hasI at *
  generalize y_rC : @rC = x_rC at *
  generalize y_nR : @nR = x_nR at *
  generalize y_validG : @validG = x_validG at *
  generalize y_sC : @sC = x_sC at *
  generalize y_iC : @iC = x_iC at *
  generalize y_nS : @nS = x_nS at *
  generalize y_nI : @nI = x_nI at *
  generalize y_termsG : @termsG = x_termsG at *
  (repeat' first | ((first | with_reducible refine tr_cut (fun h => ?_) (fun h => ?_) | refine aw_condj (by cbv) (fun h => ?_) (fun h => ?_)) <;> (try simp (disch := omega) only [hj, std, cmpI, cmpB, satB, Bool.not_eq_true, Bool.not_eq_false, decide_eq_true_eq, decide_eq_false_iff_not, beq_iff_eq, bne_iff_ne, bne_eq_false_iff_eq, beq_eq_false_iff_ne, ne_eq, reduceCtorEq, not_true_eq_false, not_false_eq_true, pl0, if_true, cmpS_eq, cmpS_neq, Bool.not_eq_eq_eq_not, Bool.not_true, Bool.not_false, Bool.not_eq_true', gi_iC, add64, sub64] at h) <;> (try (exfalso; omega))) | (with_reducible refine tr_alt (fun h => ?_) ?_ <;> (try (exfalso; omega))) | (with_reducible refine tr_ob ?_ ?_) | (with_reducible refine tr_done ?_) | (refine aw_tr hj tok (bookTe x_intsOf x_isTm x_hasI) (by cbv) ?_) | (refine aw_seq fun K hK => ?_) | (refine aw_tr1 hj tok (bookTe x_intsOf x_isTm x_hasI) (by cbv) ?_) | (refine aw_skip ?_) | (refine aw_block ?_) | (refine aw_exit ?_) | (refine aw_ret ⟨.inr rfl, ret_okj hj (by cbv) ?_ ?_⟩) | (refine aw_ret ?_) | (with_reducible refine th_n ?_) | (with_reducible refine th_r ?_) | (with_reducible refine th_x ?_) | (with_reducible refine blk_n ?_) | (with_reducible refine blk_r ?_) | (with_reducible refine blk_x ?_) | (with_reducible refine blk_y rfl ?_) | (refine ⟨.inr rfl, ret_okj hj (by cbv) ?_ ?_⟩) | (refine ⟨.inl rfl, ret_okj hj (by cbv) ?_ ?_⟩) | ((with_reducible refine ⟨(_, _, _, _, _, _, _), by cbv, ?_, ?_⟩)) | ((with_reducible refine ⟨(_, _, _, _, _, _), by cbv, ?_, ?_⟩)) | ((with_reducible refine ⟨(_, _, _, _, _), by cbv, ?_, ?_⟩)) | ((with_reducible refine ⟨(_, _, _, _), by cbv, ?_, ?_⟩)) | ((with_reducible refine ⟨(_, _, _), by cbv, ?_, ?_⟩)) | ((with_reducible refine ⟨(_, _), by cbv, ?_, ?_⟩)) | ((with_reducible refine ⟨_, by cbv, ?_, ?_⟩)) | (with_reducible apply_assumption -symm -exfalso only [*]))
  all_goals ((try subst y_intsOf); (try subst y_isTm); (try subst y_hasI); (try subst y_rC); (try subst y_nR); (try subst y_validG); (try subst y_sC); (try subst y_iC); (try subst y_nS); (try subst y_nI); (try subst y_termsG))
  all_goals (try have p := ‹isTm _ = true›)
  all_goals (try have p := ‹isTm _ = false›)
  all_goals (try rw [gi_iC] at p)
  all_goals (try rw [isTm_t] at p)
  all_goals (try rw [isTm_f] at p)
  all_goals (try have hf := hfit (by omega))
  all_goals (try have hcn := hcnt (by omega) p)
  all_goals (try have hbp := hbump (by omega) p)
  all_goals (try have hsk := hskip (by omega) p)
  all_goals (try (repeat' first | with_reducible exact obl0 | with_reducible refine obl1 ?_ ?_))
  all_goals (try first | with_reducible exact True.intro | (refine ob_pc hj ?_; (try rw [hj]); first | exact c_IsT _) | (refine ob_pcn hj ?_; (try rw [hj]); first | exact c_IsT _) | ((first | refine ob_le hj ?_ | refine ob_lei hj ?_ | refine ob_inb hj ?_ | refine ob_pos hj ?_ | refine ob_ne0 hj ?_ | refine ob_eqb hj ?_); (first | rfl | first | omega | (simp only [hj, std]; split <;> omega) | (simp (disch := omega) only [hj, std, cmpI, cmpB, satB, add64, sub64, ite0, pl0, pl2, pl3, sb0, if_true, if_false, eq_self, iC_len, gi_iC, rC_len] <;> omega) | (simp (disch := omega) [hj, std, cmpI, cmpB, satB, add64, sub64, ite0, pl0, pl2, pl3, sb0, if_true, if_false, eq_self, iC_len, gi_iC, rC_len] <;> omega))) | ((refine ob_ok hj ?_; simp (disch := omega) only [hj, std, ite0, gi_iC, sub64]; exact ok_iC (by omega))) | ((simp (disch := omega) only [hj, std, add64, sub64, gi_iC]; first | omega | exact ⟨by omega, by omega, trivial, trivial, _, hset _ _ (by omega), hbp⟩ | exact ⟨by omega, by omega, trivial, trivial, M, rfl, hsk⟩ | exact ⟨by omega, by omega, trivial, M, rfl, hfin (by omega)⟩)))
end Go.Proofs.Ytdmdcmhgfgookaa.A

/- Grammars that are well made: what is wrong with one, of the program. -/
set_option linter.unusedSimpArgs false
set_option linter.unusedVariables false
set_option maxRecDepth 100000
set_option maxHeartbeats 4000000
namespace Go.Proofs.Ytdmdcmhgfgookaa.A
open Go
def hasFc (cs : List C) : Bool := hasBl (boolsOf cs) false
theorem hasFc_bC (l : List Bool) : hasFc (bC l) = hasF l := by unfold hasFc hasBl hasF; rw [boolsOf_bC]
def bookCk (x_rlsOf : List C → List Rl) (x_validG : List ByteArray → List ByteArray → List Rl → Bool) (x_bC : List Bool → List C) (x_nB : List Bool → Nat) (x_strsOf : List C → List ByteArray) (x_reachR : List ByteArray → List ByteArray → List Rl → List Bool) (x_prodR : List ByteArray → List ByteArray → List Rl → List Bool) (x_termsG : List ByteArray → List Rl → Bool) (x_hasFc : List C → Bool) : Book := fun f xs => match f, xs with
  | 23, [.v true [.sl _ a, .sl _ b, .sl _ c]] => some (ret1 (.st (vB (x_validG (x_strsOf a) (x_strsOf b) (x_rlsOf c)))))
  | 15, [.v true [.sl _ a, .sl _ b, .sl _ c]] => some (ret1 (.own boolT (x_nB (x_prodR (x_strsOf a) (x_strsOf b) (x_rlsOf c))) (x_bC (x_prodR (x_strsOf a) (x_strsOf b) (x_rlsOf c)))))
  | 16, [.v true [.sl _ a, .sl _ b, .sl _ c]] => some (ret1 (.own boolT (x_nB (x_reachR (x_strsOf a) (x_strsOf b) (x_rlsOf c))) (x_bC (x_reachR (x_strsOf a) (x_strsOf b) (x_rlsOf c)))))
  | 36, [.v true [.sl _ a, .sl _ b, .sl _ c]] => some (ret1 (.st (vB (x_termsG (x_strsOf b) (x_rlsOf c)))))
  | 35, [.v false [.sl _ cs], .v false [.val (.bool false)]] => some (ret1 (.st (vB (x_hasFc cs))))
  | _, _ => none
theorem prodR_small {ns ts : List ByteArray} {rs : List Rl} (hS : Sml ns ts rs) : nB (prodR ns ts rs) ≤ 1000000 := by
  have := shortR_small hS
  rw [nI_eq] at this
  rw [nB_eq]; unfold prodR; rw [List.length_map]; exact this
theorem reachR_small {ns ts : List ByteArray} {rs : List Rl} (hS : Sml ns ts rs) : nB (reachR ns ts rs) ≤ 1000000 := by
  cases h : validG ns ts rs with
  | true => rw [reachR_len h]; exact hS.n
  | false => rw [reachR_no h]; decide
theorem c_Productive {ns ts : List ByteArray} {rs : List Rl} (hS : Sml ns ts rs) : pc 15 [.v true [(C.sl (nS ns) (sC ns)), (C.sl (nS ts) (sC ts)), (C.sl (nR rs) (rC rs))]] (ret1 (.own boolT (nB (prodR (strsOf (sC ns)) (strsOf (sC ts)) (rlsOf (rC rs)))) (bC (prodR (strsOf (sC ns)) (strsOf (sC ts)) (rlsOf (rC rs)))))) := by
  rw [strsOf_sC, strsOf_sC, rlsOf_rC]
  exact ⟨enters Try.func15 (by kernel_rfl) (by kernel_rfl), pc_Productive ns ts rs hS⟩
theorem c_Reached {ns ts : List ByteArray} {rs : List Rl} (hS : Sml ns ts rs) : pc 16 [.v true [(C.sl (nS ns) (sC ns)), (C.sl (nS ts) (sC ts)), (C.sl (nR rs) (rC rs))]] (ret1 (.own boolT (nB (reachR (strsOf (sC ns)) (strsOf (sC ts)) (rlsOf (rC rs)))) (bC (reachR (strsOf (sC ns)) (strsOf (sC ts)) (rlsOf (rC rs)))))) := by
  rw [strsOf_sC, strsOf_sC, rlsOf_rC]
  exact ⟨enters Try.func16 (by kernel_rfl) (by kernel_rfl), pc_Reached ns ts rs hS⟩
theorem c_terms {ns ts : List ByteArray} {rs : List Rl} (hS : Sml ns ts rs) (hv : validG ns ts rs = true) : pc 36 [.v true [(C.sl (nS ns) (sC ns)), (C.sl (nS ts) (sC ts)), (C.sl (nR rs) (rC rs))]] (ret1 (.st (vB (termsG (strsOf (sC ts)) (rlsOf (rC rs)))))) := by
  rw [strsOf_sC, rlsOf_rC]
  exact ⟨enters Try.func36 (by kernel_rfl) (by kernel_rfl), pc_terms ns ts rs hS hv⟩
theorem c_ContF {l : List Bool} (hl : nB l ≤ 1000000) : pc 35 [.v false [.sl (nB l) (bC l)], .v false [vB false]] (ret1 (.st (vB (hasFc (bC l))))) := by
  have := c_ContBl (l := l) (v := false) rfl rfl hl
  exact this
theorem check_1 {ns ts : List ByteArray} {rs : List Rl} (h : validG ns ts rs = false) : (1 : Int) = checkG ns ts rs := by unfold checkG; rw [if_pos h]
theorem check_18 {ns ts : List ByteArray} {rs : List Rl} (h : validG ns ts rs = true) (h2 : hasF (prodR ns ts rs) = true) : (18 : Int) = checkG ns ts rs := by unfold checkG; rw [if_neg (by rw [h]; decide), if_pos h2]
theorem check_17 {ns ts : List ByteArray} {rs : List Rl} (h : validG ns ts rs = true) (h2 : hasF (prodR ns ts rs) = false) (h3 : hasF (reachR ns ts rs) = true ∨ termsG ts rs = false) : (17 : Int) = checkG ns ts rs := by unfold checkG; rw [if_neg (by rw [h]; decide), if_neg (by rw [h2]; decide), if_pos h3]
theorem check_0 {ns ts : List ByteArray} {rs : List Rl} (h : validG ns ts rs = true) (h2 : hasF (prodR ns ts rs) = false) (h3 : hasF (reachR ns ts rs) = false) (h4 : termsG ts rs = true) : (0 : Int) = checkG ns ts rs := by unfold checkG; rw [if_neg (by rw [h]; decide), if_neg (by rw [h2]; decide), if_neg (by rw [h3, h4]; decide)]
theorem pc_Check (ns ts : List ByteArray) (rs : List Rl) (hS : Sml ns ts rs) : PC Try.prog T 12 [.v true [(C.sl (nS ns) (sC ns)), (C.sl (nS ts) (sC ts)), (C.sl (nR rs) (rC rs))]] (ret1 (.st (vI (checkG ns ts rs)))) [] := by
  have hp := prodR_small hS
  have hr := reachR_small hS
  refine pc_of tok Try.func12 rfl (by rfl) ?_
  obtain ⟨j, hj⟩ : ∃ j : J, j = std Try.prog T := ⟨_, rfl⟩
  have hm : Try.prog.follows .mixedOrders = true := by kernel_rfl
  generalize y_rlsOf : @rlsOf = x_rlsOf at *
  generalize y_validG : @validG = x_validG at *
  generalize y_bC : @bC = x_bC at *
  generalize y_nB : @nB = x_nB at *
  generalize y_strsOf : @strsOf = x_strsOf at *
  generalize y_reachR : @reachR = x_reachR at *
  generalize y_prodR : @prodR = x_prodR at *
  generalize y_termsG : @termsG = x_termsG at *
  generalize y_hasFc : @hasFc = x_hasFc at *
  generalize y_rC : @rC = x_rC at *
  generalize y_nR : @nR = x_nR at *
  generalize y_sC : @sC = x_sC at *
  generalize y_nS : @nS = x_nS at *
  generalize y_checkG : @checkG = x_checkG at *
  (repeat' first | ((first | with_reducible refine tr_cut (fun h => ?_) (fun h => ?_) | refine aw_condj (by cbv) (fun h => ?_) (fun h => ?_)) <;> (try simp (disch := omega) only [hj, std, cmpI, cmpB, satB, Bool.not_eq_true, Bool.not_eq_false, decide_eq_true_eq, decide_eq_false_iff_not, beq_iff_eq, bne_iff_ne, bne_eq_false_iff_eq, beq_eq_false_iff_ne, ne_eq, reduceCtorEq, not_true_eq_false, not_false_eq_true, pl0, if_true, cmpS_eq, cmpS_neq, Bool.not_eq_eq_eq_not, Bool.not_true, Bool.not_false, Bool.not_eq_true', add64, sub64] at h) <;> (try (exfalso; omega))) | (with_reducible refine tr_alt (fun h => ?_) ?_ <;> (try (exfalso; omega))) | (with_reducible refine tr_ob ?_ ?_) | (with_reducible refine tr_done ?_) | (refine aw_tr hj tok (bookCk x_rlsOf x_validG x_bC x_nB x_strsOf x_reachR x_prodR x_termsG x_hasFc) (by cbv) ?_) | (refine aw_seq fun K hK => ?_) | (refine aw_tr1 hj tok (bookCk x_rlsOf x_validG x_bC x_nB x_strsOf x_reachR x_prodR x_termsG x_hasFc) (by cbv) ?_) | (refine aw_skip ?_) | (refine aw_block ?_) | (refine aw_exit ?_) | (refine aw_ret ⟨.inr rfl, ret_okj hj (by cbv) ?_ ?_⟩) | (refine aw_ret ?_) | (with_reducible refine th_n ?_) | (with_reducible refine th_r ?_) | (with_reducible refine th_x ?_) | (with_reducible refine blk_n ?_) | (with_reducible refine blk_r ?_) | (with_reducible refine blk_x ?_) | (with_reducible refine blk_y rfl ?_) | (refine ⟨.inr rfl, ret_okj hj (by cbv) ?_ ?_⟩) | (refine ⟨.inl rfl, ret_okj hj (by cbv) ?_ ?_⟩) | ((with_reducible refine ⟨(_, _, _, _, _, _, _), by cbv, ?_, ?_⟩)) | ((with_reducible refine ⟨(_, _, _, _, _, _), by cbv, ?_, ?_⟩)) | ((with_reducible refine ⟨(_, _, _, _, _), by cbv, ?_, ?_⟩)) | ((with_reducible refine ⟨(_, _, _, _), by cbv, ?_, ?_⟩)) | ((with_reducible refine ⟨(_, _, _), by cbv, ?_, ?_⟩)) | ((with_reducible refine ⟨(_, _), by cbv, ?_, ?_⟩)) | ((with_reducible refine ⟨_, by cbv, ?_, ?_⟩)) | (with_reducible apply_assumption -symm -exfalso only [*]))
  all_goals ((try subst y_rlsOf); (try subst y_validG); (try subst y_bC); (try subst y_nB); (try subst y_strsOf); (try subst y_reachR); (try subst y_prodR); (try subst y_termsG); (try subst y_hasFc); (try subst y_rC); (try subst y_nR); (try subst y_sC); (try subst y_nS); (try subst y_checkG))
  all_goals (try have q := ‹validG _ _ _ = true›)
  all_goals (try have q := ‹validG _ _ _ = false›)
  all_goals (try rw [strsOf_sC, strsOf_sC, rlsOf_rC] at q)
  all_goals (try have q2 := ‹hasFc (bC (prodR _ _ _)) = true›)
  all_goals (try have q2 := ‹hasFc (bC (prodR _ _ _)) = false›)
  all_goals (try rw [hasFc_bC, strsOf_sC, strsOf_sC, rlsOf_rC] at q2)
  all_goals (try have q3 := ‹hasFc (bC (reachR _ _ _)) = true›)
  all_goals (try have q3 := ‹hasFc (bC (reachR _ _ _)) = false›)
  all_goals (try rw [hasFc_bC, strsOf_sC, strsOf_sC, rlsOf_rC] at q3)
  all_goals (try have q4 := ‹termsG _ _ = true›)
  all_goals (try have q4 := ‹termsG _ _ = false›)
  all_goals (try rw [strsOf_sC, rlsOf_rC] at q4)
  all_goals (try (repeat' first | with_reducible exact obl0 | with_reducible refine obl1 ?_ ?_))
  all_goals (try first | with_reducible exact True.intro | (refine ob_pc hj ?_; (try rw [hj]); first | exact c_ValidG hS | exact c_Productive hS | exact c_Reached hS | exact c_terms hS q | exact c_ContF (by rw [strsOf_sC, strsOf_sC, rlsOf_rC]; exact hp) | exact c_ContF (by rw [strsOf_sC, strsOf_sC, rlsOf_rC]; exact hr)) | (refine ob_pcn hj ?_; (try rw [hj]); first | exact c_ValidG hS | exact c_Productive hS | exact c_Reached hS | exact c_terms hS q | exact c_ContF (by rw [strsOf_sC, strsOf_sC, rlsOf_rC]; exact hp) | exact c_ContF (by rw [strsOf_sC, strsOf_sC, rlsOf_rC]; exact hr)) | ((first | refine ob_le hj ?_ | refine ob_lei hj ?_ | refine ob_inb hj ?_ | refine ob_pos hj ?_ | refine ob_ne0 hj ?_ | refine ob_eqb hj ?_); (first | rfl | first | omega | (simp only [hj, std]; split <;> omega) | (simp (disch := omega) only [hj, std, cmpI, cmpB, satB, add64, sub64, ite0, pl0, pl2, pl3, sb0, if_true, if_false, eq_self] <;> omega) | (simp (disch := omega) [hj, std, cmpI, cmpB, satB, add64, sub64, ite0, pl0, pl2, pl3, sb0, if_true, if_false, eq_self] <;> omega))) | ((refine ob_vals hj ?_; exact bC_vals _)) | ((refine r1i ?_; exact (check_1 q).symm)) | ((refine r1i ?_; exact (check_18 q q2).symm)) | ((refine r1i ?_; exact (check_17 q q2 (.inl q3)).symm)) | ((refine r1i ?_; exact (check_17 q q2 (.inr q4)).symm)) | ((refine r1i ?_; exact (check_0 q q2 q3 q4).symm)))
end Go.Proofs.Ytdmdcmhgfgookaa.A

/- Grammars that are well made, by the reference: used, Reached, Productive. -/
set_option linter.unusedSimpArgs false
set_option linter.unusedVariables false
set_option maxRecDepth 100000
set_option maxHeartbeats 4000000
namespace Go.Proofs.Ytdmdcmhgfgookaa.A
open Go
def usedRow (D : List Bool) (t : Int) (r : Rl) : Bool := r.2.any fun s => decide (s = -1 - t) && bAt D r.1.toNat
theorem stepR_next {R : List Int} {x : Nat} {M D : List Bool} {k : Int} (k1 : 0 ≤ k) (hk : k < nI R) (h : D = (R.take k.toNat).foldl (stepR1 x) M) : (R.take (k + 1).toNat).foldl (stepR1 x) M = stepR1 x D (iAt R k.toNat) := by
  have := nI_eq R
  rw [show (k + 1).toNat = k.toNat + 1 by omega, take_snoc 0 (by omega), List.foldl_append, ← h]; rfl
theorem stepR_all {R : List Int} {x : Nat} {M D : List Bool} {k : Int} (hk : ¬ k < nI R) (h : D = (R.take k.toNat).foldl (stepR1 x) M) : D = R.foldl (stepR1 x) M := by
  have := nI_eq R
  rwa [List.take_of_length_le (by omega)] at h
theorem passT_next {F : List Bool → Rl → List Bool} {rs : List Rl} {i : Int} {L M : List Bool} (h0 : 0 ≤ i) (hi : i < nR rs) (h : M = (rs.take i.toNat).foldl F L) : (rs.take (i + 1).toNat).foldl F L = F M (rAt rs i.toNat) := by
  have := nR_eq rs
  rw [show (i + 1).toNat = i.toNat + 1 by omega, take_snoc (0, []) (by omega), List.foldl_append, ← h]; rfl
theorem passT_all {F : List Bool → Rl → List Bool} {rs : List Rl} {i : Int} {L M : List Bool} (hi : ¬ i < nR rs) (h : M = (rs.take i.toNat).foldl F L) : M = rs.foldl F L := by
  have := nR_eq rs
  rwa [List.take_of_length_le (by omega)] at h
theorem passR_len (rs : List Rl) : ∀ l : List Bool, (rs.foldl stepR l).length = l.length := by
  induction rs with
  | nil => intro l; rfl
  | cons r rs ih => intro l; rw [List.foldl_cons, ih, stepR_len]
theorem foldR1_len (x : Nat) (l : List Int) : ∀ D : List Bool, (l.foldl (stepR1 x) D).length = D.length := by
  induction l with
  | nil => intro D; rfl
  | cons s l ih => intro D; rw [List.foldl_cons, ih, stepR1_len]
def startR (n : Nat) : List Bool := (List.replicate n false).set 0 true
theorem startR_len (n : Nat) : (startR n).length = n := by unfold startR; simp
end Go.Proofs.Ytdmdcmhgfgookaa.A

/- Grammars that are well made, by the reference: Productive. -/
set_option linter.unusedSimpArgs false
set_option linter.unusedVariables false
set_option maxRecDepth 100000
set_option maxHeartbeats 4000000
namespace Go.Proofs.Ytdmdcmhgfgookaa.A
open Go
/-- do all nonterminals of a right side derive something ? -/
def allP (D : List Bool) (R : List Int) : Bool := R.all fun s => !(decide (0 ≤ s) && !bAt D s.toNat)
def stepP (D : List Bool) (r : Rl) : List Bool := if allP D r.2 = true then D.set r.1.toNat true else D
def itP (rs : List Rl) : Nat → List Bool → List Bool
  | 0, l => l
  | n + 1, l => rs.foldl stepP (itP rs n l)
def noneP (n : Nat) : List Bool := List.replicate n false
def prod15 (ns : List ByteArray) (rs : List Rl) : List Bool := itP rs (nS ns + 1) (noneP (nS ns))
theorem stepP_len (D : List Bool) (r : Rl) : (stepP D r).length = D.length := by unfold stepP; split <;> simp
theorem passP_len (rs : List Rl) : ∀ l : List Bool, (rs.foldl stepP l).length = l.length := by
  induction rs with
  | nil => intro l; rfl
  | cons r rs ih => intro l; rw [List.foldl_cons, ih, stepP_len]
theorem itP_len (rs : List Rl) (l : List Bool) : ∀ n, (itP rs n l).length = l.length := by
  intro n
  induction n with
  | zero => rfl
  | succ n ih => rw [itP, passP_len, ih]
theorem noneP_len (n : Nat) : (noneP n).length = n := by unfold noneP; simp
theorem prod15_len (ns : List ByteArray) (rs : List Rl) : nB (prod15 ns rs) = nS ns := by rw [nB_eq]; unfold prod15; rw [itP_len, noneP_len]
theorem allP_next {D : List Bool} {R : List Int} {k : Int} (k1 : 0 ≤ k) (hk : k < nI R) : allP D (R.take (k + 1).toNat) = (allP D (R.take k.toNat) && !(decide (0 ≤ iAt R k.toNat) && !bAt D (iAt R k.toNat).toNat)) := by
  have := nI_eq R
  unfold allP
  rw [show (k + 1).toNat = k.toNat + 1 by omega, take_snoc 0 (by omega), List.all_append]
  simp [iAt]
theorem allP_all {D : List Bool} {R : List Int} {k : Int} (hk : ¬ k < nI R) : allP D (R.take k.toNat) = allP D R := by
  have := nI_eq R
  rw [List.take_of_length_le (by omega)]
theorem pc_Prod15 (ns ts : List ByteArray) (rs : List Rl) (hS : Sml ns ts rs) (hv : validG ns ts rs = true) : PC Try.prog T 19 [.v true [(C.sl (nS ns) (sC ns)), (C.sl (nS ts) (sC ts)), (C.sl (nR rs) (rC rs))]] (ret1 (.own boolT (nB (prod15 ns rs)) (bC (prod15 ns rs)))) [] := by
  have ha := hS.n; have hb := hS.t; have hc := hS.r
  have nr := nR_eq rs
  have hn1 := (validG_iff.1 hv).1.1
  refine pc_of tok Try.func19 rfl (by rfl) ?_
  obtain ⟨j, hj⟩ : ∃ j : J, j = std Try.prog T := ⟨_, rfl⟩
  have hm : Try.prog.follows .mixedOrders = true := by kernel_rfl
  generalize y_rC : @rC = x_rC at *
  generalize y_nR : @nR = x_nR at *
  generalize y_validG : @validG = x_validG at *
  generalize y_sC : @sC = x_sC at *
  generalize y_iC : @iC = x_iC at *
  generalize y_bC : @bC = x_bC at *
  generalize y_nS : @nS = x_nS at *
  generalize y_nI : @nI = x_nI at *
  generalize y_nB : @nB = x_nB at *
  generalize y_allP : @allP = x_allP at *
  generalize y_noneP : @noneP = x_noneP at *
  generalize y_prod15 : @prod15 = x_prod15 at *
  (repeat' first | ((first | with_reducible refine tr_cut (fun h => ?_) (fun h => ?_) | refine aw_condj (by cbv) (fun h => ?_) (fun h => ?_)) <;> (try simp (disch := omega) only [hj, std, cmpI, cmpB, satB, Bool.not_eq_true, Bool.not_eq_false, decide_eq_true_eq, decide_eq_false_iff_not, beq_iff_eq, bne_iff_ne, bne_eq_false_iff_eq, beq_eq_false_iff_ne, ne_eq, reduceCtorEq, not_true_eq_false, not_false_eq_true, pl0, if_true, cmpS_eq, cmpS_neq, Bool.not_eq_eq_eq_not, Bool.not_true, Bool.not_false, Bool.not_eq_true', add64, sub64] at h) <;> (try (exfalso; omega))) | (with_reducible refine tr_alt (fun h => ?_) ?_ <;> (try (exfalso; omega))) | (with_reducible refine tr_ob ?_ ?_) | (with_reducible refine tr_done ?_) | (refine aw_tr hj tok book0 (by cbv) ?_) | (refine aw_seq fun K hK => ?_) | (refine aw_tr1 hj tok book0 (by cbv) ?_) | (refine aw_skip ?_) | (refine aw_block ?_) | (refine aw_exit ?_) | (refine aw_ret ⟨.inr rfl, ret_okj hj (by cbv) ?_ ?_⟩) | (refine aw_ret ?_) | (with_reducible refine th_n ?_) | (with_reducible refine th_r ?_) | (with_reducible refine th_x ?_) | (with_reducible refine blk_n ?_) | (with_reducible refine blk_r ?_) | (with_reducible refine blk_x ?_) | (with_reducible refine blk_y rfl ?_) | (refine ⟨.inr rfl, ret_okj hj (by cbv) ?_ ?_⟩) | (refine ⟨.inl rfl, ret_okj hj (by cbv) ?_ ?_⟩) | ((with_reducible refine ⟨(_, _, _, _, _, _, _), by cbv, ?_, ?_⟩)) | ((with_reducible refine ⟨(_, _, _, _, _, _), by cbv, ?_, ?_⟩)) | ((with_reducible refine ⟨(_, _, _, _, _), by cbv, ?_, ?_⟩)) | ((with_reducible refine ⟨(_, _, _, _), by cbv, ?_, ?_⟩)) | ((with_reducible refine ⟨(_, _, _), by cbv, ?_, ?_⟩)) | ((with_reducible refine ⟨(_, _), by cbv, ?_, ?_⟩)) | ((with_reducible refine ⟨_, by cbv, ?_, ?_⟩)) | (with_reducible apply_assumption -symm -exfalso only [*]))
  all_goals ((try subst y_rC); (try subst y_nR); (try subst y_validG); (try subst y_sC); (try subst y_iC); (try subst y_bC); (try subst y_nS); (try subst y_nI); (try subst y_nB); (try subst y_allP); (try subst y_noneP); (try subst y_prod15))
  all_goals (try (repeat' first | with_reducible exact obl0 | with_reducible refine obl1 ?_ ?_))
  all_goals (try first | with_reducible exact True.intro | ((first | refine ob_le hj ?_ | refine ob_lei hj ?_ | refine ob_inb hj ?_ | refine ob_pos hj ?_ | refine ob_ne0 hj ?_ | refine ob_eqb hj ?_); (first | rfl | first | omega | (simp only [hj, std]; split <;> omega) | (simp (disch := omega) only [hj, std, cmpI, cmpB, satB, add64, sub64, ite0, pl0, pl2, pl3, sb0, if_true, if_false, eq_self, repC_length] <;> omega) | (simp (disch := omega) [hj, std, cmpI, cmpB, satB, add64, sub64, ite0, pl0, pl2, pl3, sb0, if_true, if_false, eq_self, repC_length] <;> omega))))
  refine aw_lpj hj [(1, .keep), (3, .own boolT), (4, .keep)] [1] (fun (⟨n, m, cs⟩ : Int × Nat × (List C)) => stOf 66 [(1, .one (.ptr 1 0)), (3, .one (.view 3 0)), (4, .one (.c (vI n)))] [(3, .loose [.own boolT m cs]), (1, .box [.st ((C.sl (nS ns) (sC ns))), .st ((C.sl (nS ts) (sC ts))), .st ((C.sl (nR rs) (rC rs)))])]) (fun (⟨n, m, cs⟩ : Int × Nat × (List C)) => nS ns + 1 - n.toNat) (fun (⟨n, m, cs⟩ : Int × Nat × (List C)) => 0 ≤ n ∧ n ≤ nS ns + 1 ∧ m = nS ns ∧ ∃ L : List Bool, cs = bC L ∧ L = itP rs n.toNat (noneP (nS ns))) ((0, j.toNat (j.ofNat (nS ns)), j.rep (j.toNat (j.ofNat (nS ns))) [.val (.bool false)])) (by generalize @rC = x_rC; generalize @nR = x_nR; generalize @validG = x_validG; generalize @sC = x_sC; generalize @iC = x_iC; generalize @bC = x_bC; generalize @nS = x_nS; generalize @nI = x_nI; generalize @nB = x_nB; generalize @allP = x_allP; generalize @noneP = x_noneP; generalize @prod15 = x_prod15; cbv) ?_ (fun ⟨n, m, cs⟩ hI => ?_)
  · refine ⟨by omega, by omega, ?_, noneP (nS ns), ?_, rfl⟩
    · rw [hj]; rfl
    · rw [hj]; exact bC_rep _ _
  obtain ⟨n1, n2, rfl, L, rfl, l1⟩ := hI
  have hend : ¬ n ≤ nS ns → L = prod15 ns rs := fun h => by
    unfold prod15; rw [l1, show n.toNat = nS ns + 1 by omega]
  have hL : L.length = nS ns := by rw [l1, itP_len, noneP_len]
  have hL2 : nB L = nS ns := by rw [nB_eq, hL]
  generalize y_rC : @rC = x_rC at *
  generalize y_nR : @nR = x_nR at *
  generalize y_validG : @validG = x_validG at *
  generalize y_sC : @sC = x_sC at *
  generalize y_iC : @iC = x_iC at *
  generalize y_bC : @bC = x_bC at *
  generalize y_nS : @nS = x_nS at *
  generalize y_nI : @nI = x_nI at *
  generalize y_nB : @nB = x_nB at *
  generalize y_allP : @allP = x_allP at *
  generalize y_noneP : @noneP = x_noneP at *
  generalize y_prod15 : @prod15 = x_prod15 at *
  (repeat' first | ((first | with_reducible refine tr_cut (fun h => ?_) (fun h => ?_) | refine aw_condj (by cbv) (fun h => ?_) (fun h => ?_)) <;> (try simp (disch := omega) only [hj, std, cmpI, cmpB, satB, Bool.not_eq_true, Bool.not_eq_false, decide_eq_true_eq, decide_eq_false_iff_not, beq_iff_eq, bne_iff_ne, bne_eq_false_iff_eq, beq_eq_false_iff_ne, ne_eq, reduceCtorEq, not_true_eq_false, not_false_eq_true, pl0, if_true, cmpS_eq, cmpS_neq, Bool.not_eq_eq_eq_not, Bool.not_true, Bool.not_false, Bool.not_eq_true', add64, sub64] at h) <;> (try (exfalso; omega))) | (with_reducible refine tr_alt (fun h => ?_) ?_ <;> (try (exfalso; omega))) | (with_reducible refine tr_ob ?_ ?_) | (with_reducible refine tr_done ?_) | (refine aw_tr hj tok book0 (by cbv) ?_) | (refine aw_seq fun K hK => ?_) | (refine aw_tr1 hj tok book0 (by cbv) ?_) | (refine aw_skip ?_) | (refine aw_block ?_) | (refine aw_exit ?_) | (refine aw_ret ⟨.inr rfl, ret_okj hj (by cbv) ?_ ?_⟩) | (refine aw_ret ?_) | (with_reducible refine th_n ?_) | (with_reducible refine th_r ?_) | (with_reducible refine th_x ?_) | (with_reducible refine blk_n ?_) | (with_reducible refine blk_r ?_) | (with_reducible refine blk_x ?_) | (with_reducible refine blk_y rfl ?_) | (refine ⟨.inr rfl, ret_okj hj (by cbv) ?_ ?_⟩) | (refine ⟨.inl rfl, ret_okj hj (by cbv) ?_ ?_⟩) | ((with_reducible refine ⟨(_, _, _, _, _, _, _), by cbv, ?_, ?_⟩)) | ((with_reducible refine ⟨(_, _, _, _, _, _), by cbv, ?_, ?_⟩)) | ((with_reducible refine ⟨(_, _, _, _, _), by cbv, ?_, ?_⟩)) | ((with_reducible refine ⟨(_, _, _, _), by cbv, ?_, ?_⟩)) | ((with_reducible refine ⟨(_, _, _), by cbv, ?_, ?_⟩)) | ((with_reducible refine ⟨(_, _), by cbv, ?_, ?_⟩)) | ((with_reducible refine ⟨_, by cbv, ?_, ?_⟩)) | (with_reducible apply_assumption -symm -exfalso only [*]))
  all_goals ((try subst y_rC); (try subst y_nR); (try subst y_validG); (try subst y_sC); (try subst y_iC); (try subst y_bC); (try subst y_nS); (try subst y_nI); (try subst y_nB); (try subst y_allP); (try subst y_noneP); (try subst y_prod15))
  all_goals (try (repeat' first | with_reducible exact obl0 | with_reducible refine obl1 ?_ ?_))
  all_goals (try first | with_reducible exact True.intro | ((first | refine ob_le hj ?_ | refine ob_lei hj ?_ | refine ob_inb hj ?_ | refine ob_pos hj ?_ | refine ob_ne0 hj ?_ | refine ob_eqb hj ?_); (first | rfl | first | omega | (simp only [hj, std]; split <;> omega) | (simp (disch := omega) only [hj, std, cmpI, cmpB, satB, add64, sub64, ite0, pl0, pl2, pl3, sb0, if_true, if_false, eq_self] <;> omega) | (simp (disch := omega) [hj, std, cmpI, cmpB, satB, add64, sub64, ite0, pl0, pl2, pl3, sb0, if_true, if_false, eq_self] <;> omega))) | ((refine ob_vals hj ?_; exact bC_vals _)) | ((refine (ret1_c (own_eq ?_ ?_)).symm; rw [← hend (by omega), hL2]; rw [← hend (by omega)])))
  have hnl : n ≤ nS ns := by assumption
  refine aw_lpj hj [(1, .keep), (3, .own boolT), (4, .keep), (5, .keep)] [1] (fun (⟨i, cs⟩ : Int × (List C)) => stOf 66 [(1, .one (.ptr 1 0)), (3, .one (.view 3 0)), (4, .one (.c (vI n))), (5, .one (.c (vI i)))] [(3, .loose [.own boolT (nS ns) cs]), (1, .box [.st ((C.sl (nS ns) (sC ns))), .st ((C.sl (nS ts) (sC ts))), .st ((C.sl (nR rs) (rC rs)))])]) (fun (⟨i, cs⟩ : Int × (List C)) => nR rs - i.toNat) (fun (⟨i, cs⟩ : Int × (List C)) => 0 ≤ i ∧ i ≤ nR rs ∧ ∃ M : List Bool, cs = bC M ∧ M = (rs.take i.toNat).foldl stepP L) ((0, bC L)) (by generalize @rC = x_rC; generalize @nR = x_nR; generalize @validG = x_validG; generalize @sC = x_sC; generalize @iC = x_iC; generalize @bC = x_bC; generalize @nS = x_nS; generalize @nI = x_nI; generalize @nB = x_nB; generalize @allP = x_allP; generalize @noneP = x_noneP; generalize @prod15 = x_prod15; cbv) ?_ (fun ⟨i, cs⟩ hI => ?_)
  · exact ⟨by omega, by omega, L, rfl, rfl⟩
  obtain ⟨i1, i2, M, rfl, m1⟩ := hI
  have hM : M.length = nS ns := by rw [m1, passP_len, hL]
  have nM := nB_eq M
  have e1 : gi (cellAt (rC rs) (i.toNat * 2)) = (rAt rs i.toNat).1 := gi_rC _ _
  have e2 : gn (cellAt (rC rs) (i.toNat * 2 + 1)) = nI (rAt rs i.toNat).2 := gn_rC _ _
  have e3 : gc (cellAt (rC rs) (i.toNat * 2 + 1)) = iC (rAt rs i.toNat).2 := gc_rC _ _
  have hout : ¬ i < nR rs → M = itP rs (n + 1).toNat (noneP (nS ns)) := fun h => by
    rw [show (n + 1).toNat = n.toNat + 1 by omega, itP, ← l1]; exact passT_all h m1
  generalize y_rC : @rC = x_rC at *
  generalize y_nR : @nR = x_nR at *
  generalize y_validG : @validG = x_validG at *
  generalize y_sC : @sC = x_sC at *
  generalize y_iC : @iC = x_iC at *
  generalize y_bC : @bC = x_bC at *
  generalize y_nS : @nS = x_nS at *
  generalize y_nI : @nI = x_nI at *
  generalize y_nB : @nB = x_nB at *
  generalize y_allP : @allP = x_allP at *
  generalize y_noneP : @noneP = x_noneP at *
  generalize y_prod15 : @prod15 = x_prod15 at *
  (repeat' first | ((first | with_reducible refine tr_cut (fun h => ?_) (fun h => ?_) | refine aw_condj (by cbv) (fun h => ?_) (fun h => ?_)) <;> (try simp (disch := omega) only [hj, std, cmpI, cmpB, satB, Bool.not_eq_true, Bool.not_eq_false, decide_eq_true_eq, decide_eq_false_iff_not, beq_iff_eq, bne_iff_ne, bne_eq_false_iff_eq, beq_eq_false_iff_ne, ne_eq, reduceCtorEq, not_true_eq_false, not_false_eq_true, pl0, if_true, cmpS_eq, cmpS_neq, Bool.not_eq_eq_eq_not, Bool.not_true, Bool.not_false, Bool.not_eq_true', add64, sub64] at h) <;> (try (exfalso; omega))) | (with_reducible refine tr_alt (fun h => ?_) ?_ <;> (try (exfalso; omega))) | (with_reducible refine tr_ob ?_ ?_) | (with_reducible refine tr_done ?_) | (refine aw_tr hj tok book0 (by cbv) ?_) | (refine aw_seq fun K hK => ?_) | (refine aw_tr1 hj tok book0 (by cbv) ?_) | (refine aw_skip ?_) | (refine aw_block ?_) | (refine aw_exit ?_) | (refine aw_ret ⟨.inr rfl, ret_okj hj (by cbv) ?_ ?_⟩) | (refine aw_ret ?_) | (with_reducible refine th_n ?_) | (with_reducible refine th_r ?_) | (with_reducible refine th_x ?_) | (with_reducible refine blk_n ?_) | (with_reducible refine blk_r ?_) | (with_reducible refine blk_x ?_) | (with_reducible refine blk_y rfl ?_) | (refine ⟨.inr rfl, ret_okj hj (by cbv) ?_ ?_⟩) | (refine ⟨.inl rfl, ret_okj hj (by cbv) ?_ ?_⟩) | ((with_reducible refine ⟨(_, _, _, _, _, _, _), by cbv, ?_, ?_⟩)) | ((with_reducible refine ⟨(_, _, _, _, _, _), by cbv, ?_, ?_⟩)) | ((with_reducible refine ⟨(_, _, _, _, _), by cbv, ?_, ?_⟩)) | ((with_reducible refine ⟨(_, _, _, _), by cbv, ?_, ?_⟩)) | ((with_reducible refine ⟨(_, _, _), by cbv, ?_, ?_⟩)) | ((with_reducible refine ⟨(_, _), by cbv, ?_, ?_⟩)) | ((with_reducible refine ⟨_, by cbv, ?_, ?_⟩)) | (with_reducible apply_assumption -symm -exfalso only [*]))
  all_goals ((try subst y_rC); (try subst y_nR); (try subst y_validG); (try subst y_sC); (try subst y_iC); (try subst y_bC); (try subst y_nS); (try subst y_nI); (try subst y_nB); (try subst y_allP); (try subst y_noneP); (try subst y_prod15))
  all_goals (try (repeat' first | with_reducible exact obl0 | with_reducible refine obl1 ?_ ?_))
  all_goals (try first | with_reducible exact True.intro | ((first | refine ob_le hj ?_ | refine ob_lei hj ?_ | refine ob_inb hj ?_ | refine ob_pos hj ?_ | refine ob_ne0 hj ?_ | refine ob_eqb hj ?_); (first | rfl | first | omega | (simp only [hj, std]; split <;> omega) | (simp (disch := omega) only [hj, std, cmpI, cmpB, satB, add64, sub64, ite0, pl0, pl2, pl3, sb0, if_true, if_false, eq_self, rC_len] <;> omega) | (simp (disch := omega) [hj, std, cmpI, cmpB, satB, add64, sub64, ite0, pl0, pl2, pl3, sb0, if_true, if_false, eq_self, rC_len] <;> omega))) | ((simp (disch := omega) only [hj, std, add64]; first | omega | exact ⟨by omega, by omega, trivial, M, rfl, hout (by omega)⟩)))
  have hil : i < nR rs := by assumption
  obtain ⟨f1, f2, f3, f4⟩ := fit_of ((validG_iff.1 hv).2.2.2.1 _ (rAt_mem rs i i1 hil))
  have hR := hS.i _ (rAt_mem rs i i1 hil)
  have hstp : (rs.take (i + 1).toNat).foldl stepP L = stepP M (rAt rs i.toNat) := passT_next i1 hil m1
  have hset : ∀ (a : Nat), a < nS ns → setC (bC M) a [vB true] = bC (M.set a true) := fun a h => bC_set _ _ (by omega)
  refine aw_lpj hj [(1, .keep), (3, .own boolT), (4, .keep), (5, .keep), (6, .keep), (7, .keep)] [1] (fun (⟨k, b⟩ : Int × Bool) => stOf 66 [(1, .one (.ptr 1 0)), (3, .one (.view 3 0)), (4, .one (.c (vI n))), (5, .one (.c (vI i))), (6, .one (.c (vB b))), (7, .one (.c (vI k)))] [(3, .loose [.own boolT (nS ns) (bC M)]), (1, .box [.st ((C.sl (nS ns) (sC ns))), .st ((C.sl (nS ts) (sC ts))), .st ((C.sl (nR rs) (rC rs)))])]) (fun (⟨k, b⟩ : Int × Bool) => nI (rAt rs i.toNat).2 - k.toNat) (fun (⟨k, b⟩ : Int × Bool) => 0 ≤ k ∧ k ≤ nI (rAt rs i.toNat).2 ∧ b = allP M ((rAt rs i.toNat).2.take k.toNat)) ((0, true)) (by generalize @rC = x_rC; generalize @nR = x_nR; generalize @validG = x_validG; generalize @sC = x_sC; generalize @iC = x_iC; generalize @bC = x_bC; generalize @nS = x_nS; generalize @nI = x_nI; generalize @nB = x_nB; generalize @allP = x_allP; generalize @noneP = x_noneP; generalize @prod15 = x_prod15; cbv) ?_ (fun ⟨k, b⟩ hI => ?_)
  · exact ⟨by omega, by omega, rfl⟩
  obtain ⟨k1, k2, k3⟩ := hI
  have nR2 := nI_eq (rAt rs i.toNat).2
  have e4 : gi (cellAt (iC (rAt rs i.toNat).2) k.toNat) = iAt (rAt rs i.toNat).2 k.toNat := gi_iC _ _
  have e5 : gb (cellAt (bC M) (iAt (rAt rs i.toNat).2 k.toNat).toNat) = bAt M (iAt (rAt rs i.toNat).2 k.toNat).toNat := gb_bC _ _
  have hs : k < nI (rAt rs i.toNat).2 → iAt (rAt rs i.toNat).2 k.toNat < nS ns := fun h => (f4 _ (iAt_mem _ k k1 h)).1
  have hnext : k < nI (rAt rs i.toNat).2 → allP M ((rAt rs i.toNat).2.take (k + 1).toNat) = (b && !(decide (0 ≤ iAt (rAt rs i.toNat).2 k.toNat) && !bAt M (iAt (rAt rs i.toNat).2 k.toNat).toNat)) := fun h => by rw [k3]; exact allP_next k1 h
  have hout2 : ¬ k < nI (rAt rs i.toNat).2 → b = allP M (rAt rs i.toNat).2 := fun h => by rw [k3]; exact allP_all h
  generalize y_rC : @rC = x_rC at *
  generalize y_nR : @nR = x_nR at *
  generalize y_validG : @validG = x_validG at *
  generalize y_sC : @sC = x_sC at *
  generalize y_iC : @iC = x_iC at *
  generalize y_bC : @bC = x_bC at *
  generalize y_nS : @nS = x_nS at *
  generalize y_nI : @nI = x_nI at *
  generalize y_nB : @nB = x_nB at *
  generalize y_allP : @allP = x_allP at *
  generalize y_noneP : @noneP = x_noneP at *
  generalize y_prod15 : @prod15 = x_prod15 at *
  (repeat' first | ((first | with_reducible refine tr_cut (fun h => ?_) (fun h => ?_) | refine aw_condj (by cbv) (fun h => ?_) (fun h => ?_)) <;> (try simp (disch := omega) only [hj, std, cmpI, cmpB, satB, Bool.not_eq_true, Bool.not_eq_false, decide_eq_true_eq, decide_eq_false_iff_not, beq_iff_eq, bne_iff_ne, bne_eq_false_iff_eq, beq_eq_false_iff_ne, ne_eq, reduceCtorEq, not_true_eq_false, not_false_eq_true, pl0, if_true, cmpS_eq, cmpS_neq, Bool.not_eq_eq_eq_not, Bool.not_true, Bool.not_false, Bool.not_eq_true', ite0, e1, e2, e3, e4, e5, add64, sub64] at h) <;> (try (exfalso; omega))) | (with_reducible refine tr_alt (fun h => ?_) ?_ <;> (try (exfalso; omega))) | (with_reducible refine tr_ob ?_ ?_) | (with_reducible refine tr_done ?_) | (refine aw_tr hj tok book0 (by cbv) ?_) | (refine aw_seq fun K hK => ?_) | (refine aw_tr1 hj tok book0 (by cbv) ?_) | (refine aw_skip ?_) | (refine aw_block ?_) | (refine aw_exit ?_) | (refine aw_ret ⟨.inr rfl, ret_okj hj (by cbv) ?_ ?_⟩) | (refine aw_ret ?_) | (with_reducible refine th_n ?_) | (with_reducible refine th_r ?_) | (with_reducible refine th_x ?_) | (with_reducible refine blk_n ?_) | (with_reducible refine blk_r ?_) | (with_reducible refine blk_x ?_) | (with_reducible refine blk_y rfl ?_) | (refine ⟨.inr rfl, ret_okj hj (by cbv) ?_ ?_⟩) | (refine ⟨.inl rfl, ret_okj hj (by cbv) ?_ ?_⟩) | ((with_reducible refine ⟨(_, _, _, _, _, _, _), by cbv, ?_, ?_⟩)) | ((with_reducible refine ⟨(_, _, _, _, _, _), by cbv, ?_, ?_⟩)) | ((with_reducible refine ⟨(_, _, _, _, _), by cbv, ?_, ?_⟩)) | ((with_reducible refine ⟨(_, _, _, _), by cbv, ?_, ?_⟩)) | ((with_reducible refine ⟨(_, _, _), by cbv, ?_, ?_⟩)) | ((with_reducible refine ⟨(_, _), by cbv, ?_, ?_⟩)) | ((with_reducible refine ⟨_, by cbv, ?_, ?_⟩)) | (with_reducible apply_assumption -symm -exfalso only [*]))
  all_goals ((try subst y_rC); (try subst y_nR); (try subst y_validG); (try subst y_sC); (try subst y_iC); (try subst y_bC); (try subst y_nS); (try subst y_nI); (try subst y_nB); (try subst y_allP); (try subst y_noneP); (try subst y_prod15))
  all_goals (try have q := ‹iAt _ _ ≥ 0›)
  all_goals (try have q := ‹¬ iAt _ _ ≥ 0›)
  all_goals (try have q2 := ‹bAt M _ = true›)
  all_goals (try have q2 := ‹bAt M _ = false›)
  all_goals (try have hn := hnext (by omega))
  all_goals (try have ho := hout2 (by omega))
  all_goals (try have hx := hs (by omega))
  all_goals (try (repeat' first | with_reducible exact obl0 | with_reducible refine obl1 ?_ ?_))
  all_goals (try first | with_reducible exact True.intro | ((first | refine ob_le hj ?_ | refine ob_lei hj ?_ | refine ob_inb hj ?_ | refine ob_pos hj ?_ | refine ob_ne0 hj ?_ | refine ob_eqb hj ?_); (first | rfl | first | omega | (simp only [hj, std]; split <;> omega) | (simp (disch := omega) only [hj, std, cmpI, cmpB, satB, add64, sub64, ite0, pl0, pl2, pl3, sb0, if_true, if_false, eq_self, ite0, e1, e2, e3, e4, e5, rC_len, iC_len, bC_len] <;> omega) | (simp (disch := omega) [hj, std, cmpI, cmpB, satB, add64, sub64, ite0, pl0, pl2, pl3, sb0, if_true, if_false, eq_self, ite0, e1, e2, e3, e4, e5, rC_len, iC_len, bC_len] <;> omega))) | ((refine ob_ok hj ?_; simp only [hj, std, ite0, e1, e2, e3, e4, e5]; first | exact ok_rC1 (by omega) | exact ok_rC0 (by omega) | exact ok_iC (by omega) | exact ok_bC (by omega))) | ((simp (disch := omega) only [hj, std, add64, ite0, e1, e2, e3, e4, e5]; first | omega | exact ⟨by omega, by omega, by rw [hn, decide_eq_true (by omega), q2]; simp⟩ | exact ⟨by omega, by omega, by rw [hn, decide_eq_false (by omega)]; simp⟩ | exact ⟨by omega, by omega, _, hset _ (by omega), by rw [hstp]; unfold stepP; rw [if_pos (ho.symm.trans ‹b = true›)]⟩ | exact ⟨by omega, by omega, M, rfl, by rw [hstp]; unfold stepP; rw [if_neg (by rw [← ho, ‹b = false›]; decide)]⟩)))
end Go.Proofs.Ytdmdcmhgfgookaa.A

/- The ghost machine, part 33: regions that draw, in two parts. -/
set_option linter.unusedSimpArgs false
set_option linter.unusedVariables false
set_option maxRecDepth 100000
set_option maxHeartbeats 4000000
namespace Go.Proofs.Ytdmdcmhgfgookaa.A
open Go Go.RowKit
variable {P : Program} {T : TT} {w w' w0 : World} {S S0 : Nat → Prop} {F : Fr} {bx : Nat → Nat} {ph : Nat → Nat → Pv} {a : Act} {st st' : St} {Q : Exit → St → Prop}
/-- the first part of a region that draws: it has made nothing. A: nobody in the region changes what was there; fresh: the world is the one of the start -/
def runS (T : TT) (j : J) (bk : Book) (ops : List Oper) (A : Bool) : Cert → Bool → List Nat → St → Tr
  | [], true, _, st => .done st
  | [], false, _, _ => .bad
  | (i, sole) :: rest, fresh, kn, st =>
    match ops[i]? with
    | none => .bad
    | some o =>
      let g2 := fun kn st =>
        match pureT T j st o (A && fresh) with
        | some (v, obl) => Tr.with obl (runS T j bk ops A rest fresh (learn kn st o) (put st o.dst v))
        | none =>
          if sole && (!A || !writes st o) then
            match stepT T j bk ops st o i with
            | some (st1, obl) => Tr.with obl (runS T j bk ops A rest false (learn kn st o) st1)
            | none => .bad
          else .bad
      let g1 := fun kn st =>
        match wantT ops st o with
        | some true =>
          match askT kn st (pickD o) with
          | some (d, b) => .cut b (g2 (d :: kn) (setB st d true)) (g2 (d :: kn) (setB st d false))
          | none => g2 kn st
        | some false => runS T j bk ops A rest fresh kn (put st o.dst .nop)
        | none => .bad
      match askT kn st (guardD ops o) with
      | some (d, b) => .cut b (g1 (d :: kn) (setB st d true)) (g1 (d :: kn) (setB st d false))
      | none => g1 kn st

theorem runS_sound (hT : TOk P T) {bk : Book} {ops : Array Oper} {A : Bool} {R R0 : St → Prop} {c2 : Cert} {wr : World} (hns : Region.noSelect ops = true) {Q : Exit → Act → World → Prop} (hQ : ∀ c a w, ¬ Q (.panic c) a w)
    (hR : ∀ st', R st' → TrOk R0 (runD T (std P T) bk ops.toList A c2 true [] st')) (hE : ∀ st' a' w', R0 st' → Rels T w0 S0 F st' a' w' → Q .normal a' w') :
    ∀ (cert : Cert) (listed : Array Bool) (fresh : Bool) (kn : List Nat) (st : St) (a : Act) (w : World), certOk ops listed (cert ++ c2) = true → Rels T w0 S0 F st a w → (fresh = true → w = wr) → (A = true → Old wr w) →
      TrOk R (runS T (std P T) bk ops.toList A cert fresh kn st) → wpAnyH P .any ops Q (fun w' => A = true → Old wr w') (cert ++ c2).length listed a w := by
  intro cert
  induction cert with
  | nil =>
    intro listed fresh kn st a w hc hrel hf hA hr
    cases fresh with
    | false => exact hr.elim
    | true => exact runD_sound hT hns hQ hE c2 wr listed true [] st a w hc hrel hf hA (hR st hr)
  | cons p rest ih =>
    obtain ⟨i, sole⟩ := p
    intro listed fresh kn st a w hc hrel hf hA hr
    change certOk ops listed ((i, sole) :: (rest ++ c2)) = true at hc
    change wpAnyH P .any ops Q (fun w' => A = true → Old wr w') ((rest ++ c2).length + 1) listed a w
    unfold runS at hr
    split at hr
    · exact hr.elim
    · rename_i o hoi
      have hoi' : ops[i]? = some o := by rw [← hoi]; simp
      dsimp only at hr
      -- no test is open any more
      have k1 : ∃ kn, TrOk R (match wantT ops.toList st o with
        | some true =>
          match askT kn st (pickD o) with
          | some (d, b) => .cut b ((fun kn st => match pureT T (std P T) st o (A && fresh) with
              | some (v, obl) => Tr.with obl (runS T (std P T) bk ops.toList A rest fresh (learn kn st o) (put st o.dst v))
              | none => if sole && (!A || !writes st o) then
                  match stepT T (std P T) bk ops.toList st o i with
                  | some (st1, obl) => Tr.with obl (runS T (std P T) bk ops.toList A rest false (learn kn st o) st1)
                  | none => Tr.bad
                else Tr.bad) (d :: kn) (setB st d true)) ((fun kn st => match pureT T (std P T) st o (A && fresh) with
              | some (v, obl) => Tr.with obl (runS T (std P T) bk ops.toList A rest fresh (learn kn st o) (put st o.dst v))
              | none => if sole && (!A || !writes st o) then
                  match stepT T (std P T) bk ops.toList st o i with
                  | some (st1, obl) => Tr.with obl (runS T (std P T) bk ops.toList A rest false (learn kn st o) st1)
                  | none => Tr.bad
                else Tr.bad) (d :: kn) (setB st d false))
          | none => (fun kn st => match pureT T (std P T) st o (A && fresh) with
              | some (v, obl) => Tr.with obl (runS T (std P T) bk ops.toList A rest fresh (learn kn st o) (put st o.dst v))
              | none => if sole && (!A || !writes st o) then
                  match stepT T (std P T) bk ops.toList st o i with
                  | some (st1, obl) => Tr.with obl (runS T (std P T) bk ops.toList A rest false (learn kn st o) st1)
                  | none => Tr.bad
                else Tr.bad) kn st
        | some false => runS T (std P T) bk ops.toList A rest fresh kn (put st o.dst .nop)
        | none => .bad) := by
        split at hr
        · rename_i d b hask
          exact tcut_sound (f := fun kn st => match wantT ops.toList st o with
            | some true =>
              match askT kn st (pickD o) with
              | some (d, b) => .cut b ((fun kn st => match pureT T (std P T) st o (A && fresh) with
                  | some (v, obl) => Tr.with obl (runS T (std P T) bk ops.toList A rest fresh (learn kn st o) (put st o.dst v))
                  | none => if sole && (!A || !writes st o) then
                      match stepT T (std P T) bk ops.toList st o i with
                      | some (st1, obl) => Tr.with obl (runS T (std P T) bk ops.toList A rest false (learn kn st o) st1)
                      | none => Tr.bad
                    else Tr.bad) (d :: kn) (setB st d true)) ((fun kn st => match pureT T (std P T) st o (A && fresh) with
                  | some (v, obl) => Tr.with obl (runS T (std P T) bk ops.toList A rest fresh (learn kn st o) (put st o.dst v))
                  | none => if sole && (!A || !writes st o) then
                      match stepT T (std P T) bk ops.toList st o i with
                      | some (st1, obl) => Tr.with obl (runS T (std P T) bk ops.toList A rest false (learn kn st o) st1)
                      | none => Tr.bad
                    else Tr.bad) (d :: kn) (setB st d false))
              | none => (fun kn st => match pureT T (std P T) st o (A && fresh) with
                  | some (v, obl) => Tr.with obl (runS T (std P T) bk ops.toList A rest fresh (learn kn st o) (put st o.dst v))
                  | none => if sole && (!A || !writes st o) then
                      match stepT T (std P T) bk ops.toList st o i with
                      | some (st1, obl) => Tr.with obl (runS T (std P T) bk ops.toList A rest false (learn kn st o) st1)
                      | none => Tr.bad
                    else Tr.bad) kn st
            | some false => runS T (std P T) bk ops.toList A rest fresh kn (put st o.dst .nop)
            | none => .bad) hask hr
        · exact ⟨kn, hr⟩
      -- an operation that gives a value, or is unwanted: first, or alone
      have take : ∀ (v : Value) (st2 : St) (kn2 : List Nat), YieldsIf P ops (fun w' => A = true → Old wr w') o v a → Rels T w0 S0 F st2 (a.put o.dst v) w → TrOk R (runS T (std P T) bk ops.toList A rest fresh kn2 st2) →
          wpAnyH P .any ops Q (fun w' => A = true → Old wr w') ((rest ++ c2).length + 1) listed a w := by
        intro v st2 kn2 hy hrel2 hr2
        have hrest : certOk ops (listed.setIfInBounds i true) (rest ++ c2) = true := by
          cases sole <;> simp only [certOk, Bool.and_eq_true] at hc <;> exact hc.2
        have h2 := ih _ fresh kn2 st2 (a.put o.dst v) w hrest hrel2 hf hA hr2
        cases sole with
        | true =>
          simp only [certOk, Bool.and_eq_true, beq_iff_eq] at hc
          refine wpAnyH_all hc.1 (by simp) fun k hk => ?_
          rcases List.mem_singleton.1 hk with rfl
          exact hy.wpOp hoi' hA ⟨hA, h2⟩
        | false =>
          simp only [certOk, Bool.and_eq_true] at hc
          exact wpAnyH_take hoi' hns hc.1.1 hc.1.2 (fun c a w h => absurd h (hQ c _ w)) hy hA h2
      obtain ⟨kn1, h1⟩ := k1
      split at h1
      · rename_i hw
        have hwt := wantT_sound P hrel hw
        have k2 : ∃ kn, TrOk R (match pureT T (std P T) st o (A && fresh) with
              | some (v, obl) => Tr.with obl (runS T (std P T) bk ops.toList A rest fresh (learn kn st o) (put st o.dst v))
              | none => if sole && (!A || !writes st o) then
                  match stepT T (std P T) bk ops.toList st o i with
                  | some (st1, obl) => Tr.with obl (runS T (std P T) bk ops.toList A rest false (learn kn st o) st1)
                  | none => Tr.bad
                else Tr.bad) := by
          split at h1
          · rename_i d b hask
            exact tcut_sound (f := fun kn st => match pureT T (std P T) st o (A && fresh) with
                  | some (v, obl) => Tr.with obl (runS T (std P T) bk ops.toList A rest fresh (learn kn st o) (put st o.dst v))
                  | none => if sole && (!A || !writes st o) then
                      match stepT T (std P T) bk ops.toList st o i with
                      | some (st1, obl) => Tr.with obl (runS T (std P T) bk ops.toList A rest false (learn kn st o) st1)
                      | none => Tr.bad
                    else Tr.bad) hask h1
          · exact ⟨kn1, h1⟩
        obtain ⟨kn2, h2⟩ := k2
        split at h2
        · rename_i v obl hp
          obtain ⟨h3, h4⟩ := tr_with h2
          obtain ⟨S, bx, ph, hr0, hsp⟩ := hrel
          obtain ⟨z, r1, r2⟩ := pureT_sound hT hr0 hp h3
          refine take z _ _ (.inl ⟨hwt, fun w1 hS => r1 w1 fun hfr => ?_⟩) ⟨S, bx, ph, ?_, ?_⟩ h4
          · simp only [Bool.and_eq_true] at hfr
            have e1 := hf hfr.2
            have hold := hS hfr.1
            rw [← e1] at hold
            exact ⟨fun b hb => hold b (hr0.heap.low.1 b hb), fun t κ b hb => hold b (hr0.heap.free t κ b hb).2⟩
          · cases hdst : o.dst with
            | none => exact hr0
            | some d => exact hr0.put d r2
          · cases hdst : o.dst with
            | none => exact hsp
            | some d => show st.r.getD (st.s.set d v).length .none = .none; rw [List.length_set]; exact hsp
        · split at h2
          · rename_i hsole
            simp only [Bool.and_eq_true, Bool.or_eq_true, Bool.not_eq_true'] at hsole
            obtain ⟨rfl, hwr⟩ := hsole
            split at h2
            · rename_i st1 obl hst
              obtain ⟨h3, h4⟩ := tr_with h2
              simp only [certOk, Bool.and_eq_true, beq_iff_eq] at hc
              refine wpAnyH_all hc.1 (by simp) fun k hk => ?_
              rcases List.mem_singleton.1 hk with rfl
              unfold wpOp
              rw [hoi']
              dsimp only
              rw [if_pos hwt]
              refine .inl (stepT_sound2 hT hrel hst h3 fun z w' hz hw' => ?_)
              have hA' : A = true → Old wr w' := fun h => by
                rcases hwr with h5 | h5
                · rw [h] at h5; cases h5
                · exact old_trans (hA h) (hw' h5)
              exact ⟨hA', ih _ false _ st1 _ w' hc.2 hz (fun h => by cases h) hA' h4⟩
            · exact h2.elim
          · exact h2.elim
      · rename_i hw
        have hwt := wantT_sound P hrel hw
        exact take undef _ kn1 (.inr ⟨hwt, rfl⟩) (nop_rels hrel _) h1
      · exact h1.elim
/-- what is left of a region that draws -/
def DOk (R : St → Prop) (T : TT) (j : J) (bk : Book) (ops : List Oper) (A : Bool) (c : Cert) (st : St) : Prop := TrOk R (runD T j bk ops A c true [] st)
theorem dr_go {R : St → Prop} {j : J} {bk : Book} {ops : List Oper} {A : Bool} {c : Cert} {t : Tr} (hr : runD T j bk ops A c true [] st = t) (h : TrOk R t) : DOk R T j bk ops A c st := by unfold DOk; rw [hr]; exact h
theorem tr_mono {R R' : St → Prop} (hR : ∀ st, R st → R' st) : ∀ t, TrOk R t → TrOk R' t := by
  intro t
  induction t with
  | done st => exact fun h => hR st h
  | ob l t ih => exact fun h => ⟨h.1, ih h.2⟩
  | cut b x y ih1 ih2 => exact fun h => ⟨fun hb => ih1 (h.1 hb), fun hb => ih2 (h.2 hb)⟩
  | alt n x y ih1 ih2 => exact fun h => ⟨fun hb => ih1 (h.1 hb), ih2 h.2⟩
  | bad => exact fun h => h
theorem aw_ds1 {j : J} (hj : j = std P T) (hT : TOk P T) (hm : P.follows .mixedOrders = true) (bk : Book) (A : Bool) (c1 c2 : Cert) {id : Nat} {ops : Array Oper} {t : Tr} (hc : certAll ops (c1 ++ c2) = true)
    (hr : runS T j bk ops.toList A c1 true [] st = t) (h : TrOk (DOk (Q .normal) T j bk ops.toList A c2) t) : Aw P T (.region id ops true) Q st := by
  rw [hj] at hr h
  simp only [certAll, Bool.and_eq_true, beq_iff_eq] at hc
  intro w0 S0 F a w hrel
  refine wp_mono (Q := fun e a' w' => e = .normal ∧ ∃ st', Q .normal st' ∧ Rels T w0 S0 F st' a' w') ?_ (fun e a' w' hh => by obtain ⟨rfl, hh⟩ := hh; exact hh)
  refine wp_region_held (S := fun w' => A = true → Old { w with drawn := w.drawn + 1 } w') hm ?_
  have h9 := runS_sound (Q := fun e a' w' => e = .normal ∧ ∃ st', Q .normal st' ∧ Rels T w0 S0 F st' a' w') (A := A) (wr := { w with drawn := w.drawn + 1 }) (bk := bk) (R := DOk (Q .normal) T (std P T) bk ops.toList A c2) (R0 := Q .normal) (c2 := c2) hT hc.1.1 (fun c a w h => by cases h.1) (fun st' h' => h') (fun st' a' w' hR h' => ⟨rfl, st', hR, h'⟩) c1 _ true [] st a _ hc.2 hrel.drew (fun _ => rfl) (fun _ _ _ => rfl) (by rw [hr]; exact h)
  rw [hc.1.2] at h9
  exact h9
theorem aw_ds {j : J} (hj : j = std P T) (hT : TOk P T) (hm : P.follows .mixedOrders = true) (bk : Book) (A : Bool) (c1 c2 : Cert) {id : Nat} {ops : Array Oper} {y : Code} {t : Tr} (hc : certAll ops (c1 ++ c2) = true)
    (hr : runS T j bk ops.toList A c1 true [] st = t) (h : TrOk (DOk (Aw P T y Q) T j bk ops.toList A c2) t) : Aw P T (.seq (.region id ops true) y) Q st :=
  aw_seq fun K hK => aw_ds1 hj hT hm bk A c1 c2 hc hr (tr_mono (fun st1 h1 => tr_mono (fun st2 h2 => hK st2 h2) _ h1) t h)
end Go.Proofs.Ytdmdcmhgfgookaa.A

/- Grammars: which may be, by the reference. -/
set_option linter.unusedSimpArgs false
set_option linter.unusedVariables false
set_option maxRecDepth 100000
set_option maxHeartbeats 4000000
namespace Go.Proofs.Ytdmdcmhgfgookaa.A
open Go
theorem idxGo_at (w : ByteArray) : ∀ (l : List ByteArray) (i0 : Int) (n : Nat) (hn : n < l.length), l[n] = w → (∀ k (hk : k < n), l[k] ≠ w) → idxGo w l i0 = i0 + n := by
  intro l
  induction l with
  | nil => intro i0 n hn; exact absurd hn (by simp)
  | cons x l ih =>
    intro i0 n hn e h
    unfold idxGo
    cases n with
    | zero => rw [if_pos (by simpa using e.symm)]; simp
    | succ n =>
      rw [if_neg (fun e2 => h 0 (by omega) (by simpa using e2.symm)), ih (i0 + 1) n (by simpa using hn) (by simpa using e) (fun k hk => by simpa using h (k + 1) (by omega))]
      omega
theorem idxGo_le (w : ByteArray) : ∀ (l : List ByteArray) (i0 : Int) (n : Nat) (hn : n < l.length), l[n] = w → idxGo w l i0 ≤ i0 + n := by
  intro l
  induction l with
  | nil => intro i0 n hn; exact absurd hn (by simp)
  | cons x l ih =>
    intro i0 n hn e
    unfold idxGo
    split
    · omega
    · cases n with
      | zero => rename_i h; exact absurd (by simpa using e.symm) h
      | succ n => have := ih (i0 + 1) n (by simpa using hn) (by simpa using e); omega
theorem idx_first {l : List ByteArray} {i : Int} (h0 : 0 ≤ i) (hi : i < nS l) : idxS l (sAt l i.toNat) = i ↔ ∀ k : Nat, k < i.toNat → sAt l k ≠ sAt l i.toNat := by
  have hn := nS_eq l
  have hl : i.toNat < l.length := by omega
  constructor
  · intro h k hk e
    rw [sAt_get (by omega), sAt_get hl] at e
    have := idxGo_le (sAt l i.toNat) l 0 k (by omega) (by rw [sAt_get hl]; exact e)
    unfold idxS at h
    omega
  · intro h
    have := idxGo_at (sAt l i.toNat) l 0 i.toNat hl (sAt_get hl).symm (fun k hk => by have := h k hk; rwa [sAt_get (by omega)] at this)
    unfold idxS; omega
theorem dst_no3 {p : ByteArray → Bool} {l : List ByteArray} {i : Int} (h0 : 0 ≤ i) (hi : i < nS l) (h : ¬ idxS l (sAt l i.toNat) = i) : dstS p l = false :=
  decide_eq_false fun hh => h ((idx_first h0 hi).2 fun k hk e => by
    have hn := nS_eq l
    rw [sAt_get (by omega), sAt_get (by omega)] at e
    exact List.pairwise_iff_getElem.1 hh.2 k i.toNat (by omega) (by omega) hk e)
theorem dst_all {p : ByteArray → Bool} {l : List ByteArray} (h1 : ∀ n : Nat, n < nS l → p (sAt l n) = true) (h2 : ∀ n : Nat, n < nS l → idxS l (sAt l n) = (n : Int)) : dstS p l = true := by
  refine decide_eq_true ⟨fun s hs => by obtain ⟨n, hn, rfl⟩ := mem_sAt hs; exact h1 n hn, List.pairwise_iff_getElem.2 fun k n hk hn hkn e => ?_⟩
  have hl := nS_eq l
  have h3 := (idx_first (l := l) (i := (n : Int)) (by omega) (by omega)).1 (h2 n (by omega)) k (by omega)
  rw [show ((n : Int)).toNat = n by omega, sAt_get hn, sAt_get hk] at h3
  exact h3 e
theorem fit_all {n t : Nat} {x : Int} {l : List Int} (h : 0 ≤ x ∧ x < n ∧ nI l ≤ 64) (h2 : ∀ m : Nat, m < nI l → badI n t (iAt l m) = false) : fitR n t (x, l) = true := by
  rw [fit_yes h, Bool.not_eq_true']
  unfold hasB
  rw [List.any_eq_false]
  intro s hs
  obtain ⟨m, hm, rfl⟩ := mem_iAt hs
  rw [h2 m hm]; decide
theorem fit_no2 {n t : Nat} {r : Rl} {k : Int} (h0 : 0 ≤ k) (hk : k < nI r.2) (h : badI n t (iAt r.2 k.toNat) = true) : fitR n t r = false := by
  unfold fitR hasB
  have : r.2.any (badI n t) = true := List.any_eq_true.2 ⟨_, iAt_mem r.2 k h0 hk, h⟩
  rw [this]; simp
def bookG7 (x_rlsOf : List C → List Rl) (x_dupR : List Rl → Bool) (x_strsOf : List C → List ByteArray) (x_idxS : List ByteArray → ByteArray → Int) (x_nameI : ByteArray → Bool) (x_termI : ByteArray → Bool) : Book := fun f xs => match f, xs with
  | 38, [.v false [.val (.string s)]] => some (ret1 (.st (vB (x_nameI s))))
  | 40, [.v false [.val (.string s)]] => some (ret1 (.st (vB (x_termI s))))
  | 39, [.v false [.sl _ cs], .v false [.val (.string s)]] => some (ret1 (.st (vI (x_idxS (x_strsOf cs) s))))
  | 41, [.v false [.sl _ cs]] => some (ret1 (.st (vB (x_dupR (x_rlsOf cs)))))
  | _, _ => none
theorem c_Find {l : List ByteArray} {w : ByteArray} (hl : nS l < 4611686018427387904) : pc 39 [.v false [(C.sl (nS l) (sC l))], .v false [vS w]] (ret1 (.st (vI (idxS (strsOf (sC l)) w)))) := by
  rw [strsOf_sC]
  exact ⟨enters Try.func39 (by kernel_rfl) (by kernel_rfl), pc_Find l w hl⟩
theorem c_tw14 {rs : List Rl} (h : nR rs ≤ 1000000) (hr : ∀ r ∈ rs, nI r.2 ≤ 1000000) : pc 41 [.v false [(C.sl (nR rs) (rC rs))]] (ret1 (.st (vB (dupR (rlsOf (rC rs)))))) := by
  rw [rlsOf_rC]
  exact ⟨enters Try.func41 (by kernel_rfl) (by kernel_rfl), pc_twice14 rs (by omega) fun r hh => by have := hr r hh; omega⟩
/-- has the list a rule of the nonterminal ahead of a place ? -/
def hasL (rs : List Rl) (i : Int) (k : Int) : Bool := (rs.take k.toNat).any fun r => decide (r.1 = i)
theorem hasL_step {rs : List Rl} {i k : Int} (h0 : 0 ≤ k) (hk : k < nR rs) : hasL rs i (k + 1) = (hasL rs i k || decide ((rAt rs k.toNat).1 = i)) := by
  have hn := nR_eq rs
  have e : (k + 1).toNat = k.toNat + 1 := by omega
  unfold hasL
  rw [e, take_snoc (0, []) (by omega), List.any_append]
  simp
theorem hasL_end {rs : List Rl} {i k : Int} (hk : ¬ k < nR rs) : hasL rs i k = true ↔ ∃ r ∈ rs, r.1 = i := by
  have hn := nR_eq rs
  unfold hasL
  rw [List.take_of_length_le (by omega), List.any_eq_true]
  simp
theorem pc_Valid14 (ns ts : List ByteArray) (rs : List Rl) (hS : Sml ns ts rs) : PC Try.prog T 14 [.v true [(C.sl (nS ns) (sC ns)), (C.sl (nS ts) (sC ts)), (C.sl (nR rs) (rC rs))]] (ret1 (.st (vB (validG ns ts rs)))) [] := by
  have ha := hS.n; have hb := hS.t; have hc := hS.r
  have nn := nS_eq ns; have nt := nS_eq ts; have nr := nR_eq rs
  refine pc_of tok Try.func14 rfl (by rfl) ?_
  obtain ⟨j, hj⟩ : ∃ j : J, j = std Try.prog T := ⟨_, rfl⟩
  have hm : Try.prog.follows .mixedOrders = true := by kernel_rfl
  generalize y_rlsOf : @rlsOf = x_rlsOf at *
  generalize y_dupR : @dupR = x_dupR at *
  generalize y_strsOf : @strsOf = x_strsOf at *
  generalize y_idxS : @idxS = x_idxS at *
  generalize y_nameI : @nameI = x_nameI at *
  generalize y_termI : @termI = x_termI at *
  generalize y_rC : @rC = x_rC at *
  generalize y_nR : @nR = x_nR at *
  generalize y_dstS : @dstS = x_dstS at *
  generalize y_badI : @badI = x_badI at *
  generalize y_fitR : @fitR = x_fitR at *
  generalize y_validG : @validG = x_validG at *
  generalize y_sC : @sC = x_sC at *
  generalize y_iC : @iC = x_iC at *
  generalize y_nS : @nS = x_nS at *
  generalize y_nI : @nI = x_nI at *
  (repeat' first | ((first | with_reducible refine tr_cut (fun h => ?_) (fun h => ?_) | refine aw_condj (by cbv) (fun h => ?_) (fun h => ?_)) <;> (try simp (disch := omega) only [hj, std, cmpI, cmpB, satB, Bool.not_eq_true, Bool.not_eq_false, decide_eq_true_eq, decide_eq_false_iff_not, beq_iff_eq, bne_iff_ne, bne_eq_false_iff_eq, beq_eq_false_iff_ne, ne_eq, reduceCtorEq, not_true_eq_false, not_false_eq_true, pl0, if_true, cmpS_eq, cmpS_neq, Bool.not_eq_eq_eq_not, Bool.not_true, Bool.not_false, Bool.not_eq_true', add64, sub64] at h) <;> (try (exfalso; omega))) | (with_reducible refine tr_alt (fun h => ?_) ?_ <;> (try (exfalso; omega))) | (with_reducible refine tr_ob ?_ ?_) | (with_reducible refine tr_done ?_) | (refine aw_tr hj tok (bookG7 x_rlsOf x_dupR x_strsOf x_idxS x_nameI x_termI) (by cbv) ?_) | (refine aw_seq fun K hK => ?_) | (refine aw_tr1 hj tok (bookG7 x_rlsOf x_dupR x_strsOf x_idxS x_nameI x_termI) (by cbv) ?_) | (refine aw_skip ?_) | (refine aw_block ?_) | (refine aw_exit ?_) | (refine aw_ret ⟨.inr rfl, ret_okj hj (by cbv) ?_ ?_⟩) | (refine aw_ret ?_) | (with_reducible refine th_n ?_) | (with_reducible refine th_r ?_) | (with_reducible refine th_x ?_) | (with_reducible refine blk_n ?_) | (with_reducible refine blk_r ?_) | (with_reducible refine blk_x ?_) | (with_reducible refine blk_y rfl ?_) | (refine ⟨.inr rfl, ret_okj hj (by cbv) ?_ ?_⟩) | (refine ⟨.inl rfl, ret_okj hj (by cbv) ?_ ?_⟩) | ((with_reducible refine ⟨(_, _, _, _, _, _, _), by cbv, ?_, ?_⟩)) | ((with_reducible refine ⟨(_, _, _, _, _, _), by cbv, ?_, ?_⟩)) | ((with_reducible refine ⟨(_, _, _, _, _), by cbv, ?_, ?_⟩)) | ((with_reducible refine ⟨(_, _, _, _), by cbv, ?_, ?_⟩)) | ((with_reducible refine ⟨(_, _, _), by cbv, ?_, ?_⟩)) | ((with_reducible refine ⟨(_, _), by cbv, ?_, ?_⟩)) | ((with_reducible refine ⟨_, by cbv, ?_, ?_⟩)) | (with_reducible apply_assumption -symm -exfalso only [*]))
  all_goals ((try subst y_rlsOf); (try subst y_dupR); (try subst y_strsOf); (try subst y_idxS); (try subst y_nameI); (try subst y_termI); (try subst y_rC); (try subst y_nR); (try subst y_dstS); (try subst y_badI); (try subst y_fitR); (try subst y_validG); (try subst y_sC); (try subst y_iC); (try subst y_nS); (try subst y_nI))
  all_goals (try (repeat' first | with_reducible exact obl0 | with_reducible refine obl1 ?_ ?_))
  all_goals (try first | with_reducible exact True.intro | ((first | refine ob_le hj ?_ | refine ob_lei hj ?_ | refine ob_inb hj ?_ | refine ob_pos hj ?_ | refine ob_ne0 hj ?_ | refine ob_eqb hj ?_); (first | rfl | first | omega | (simp only [hj, std]; split <;> omega) | (simp (disch := omega) only [hj, std, cmpI, cmpB, satB, add64, sub64, ite0, pl0, pl2, pl3, sb0, if_true, if_false, eq_self] <;> omega) | (simp (disch := omega) [hj, std, cmpI, cmpB, satB, add64, sub64, ite0, pl0, pl2, pl3, sb0, if_true, if_false, eq_self] <;> omega))) | ((refine r1b ?_; exact valid_no1 (by omega))))
  refine aw_lpj hj [(1, .keep), (3, .keep)] [1] (fun (i : Int) => stOf 160 [(1, .one (.ptr 1 0)), (3, .one (.c (vI i)))] [(1, .box [.st ((C.sl (nS ns) (sC ns))), .st ((C.sl (nS ts) (sC ts))), .st ((C.sl (nR rs) (rC rs)))])]) (fun (i : Int) => nS ns - i.toNat) (fun (i : Int) => 0 ≤ i ∧ i ≤ nS ns ∧ (∀ n : Nat, (n : Int) < i → nameI (sAt ns n) = true) ∧ (∀ n : Nat, (n : Int) < i → idxS ns (sAt ns n) = (n : Int)) ∧ ∀ n : Nat, (n : Int) < i → ∃ r ∈ rs, r.1 = (n : Int)) (0) (by generalize @rlsOf = x_rlsOf; generalize @dupR = x_dupR; generalize @strsOf = x_strsOf; generalize @idxS = x_idxS; generalize @nameI = x_nameI; generalize @termI = x_termI; generalize @rC = x_rC; generalize @nR = x_nR; generalize @dstS = x_dstS; generalize @badI = x_badI; generalize @fitR = x_fitR; generalize @validG = x_validG; generalize @sC = x_sC; generalize @iC = x_iC; generalize @nS = x_nS; generalize @nI = x_nI; cbv) ?_ (fun i hI => ?_)
  · exact ⟨by omega, by omega, fun n h => by omega, fun n h => by omega, fun n h => by omega⟩
  obtain ⟨i1, i2, i3, i4, i5⟩ := hI
  have hnn : i < nS ns → (gs (cellAt (sC ns) i.toNat)).size ≤ 1000000 := fun h => by rw [gs_sC]; exact hS.s _ (sAt_mem ns i i1 h)
  generalize y_rlsOf : @rlsOf = x_rlsOf at *
  generalize y_dupR : @dupR = x_dupR at *
  generalize y_strsOf : @strsOf = x_strsOf at *
  generalize y_idxS : @idxS = x_idxS at *
  generalize y_nameI : @nameI = x_nameI at *
  generalize y_termI : @termI = x_termI at *
  generalize y_rC : @rC = x_rC at *
  generalize y_nR : @nR = x_nR at *
  generalize y_dstS : @dstS = x_dstS at *
  generalize y_badI : @badI = x_badI at *
  generalize y_fitR : @fitR = x_fitR at *
  generalize y_validG : @validG = x_validG at *
  generalize y_sC : @sC = x_sC at *
  generalize y_iC : @iC = x_iC at *
  generalize y_nS : @nS = x_nS at *
  generalize y_nI : @nI = x_nI at *
  (repeat' first | ((first | with_reducible refine tr_cut (fun h => ?_) (fun h => ?_) | refine aw_condj (by cbv) (fun h => ?_) (fun h => ?_)) <;> (try simp (disch := omega) only [hj, std, cmpI, cmpB, satB, Bool.not_eq_true, Bool.not_eq_false, decide_eq_true_eq, decide_eq_false_iff_not, beq_iff_eq, bne_iff_ne, bne_eq_false_iff_eq, beq_eq_false_iff_ne, ne_eq, reduceCtorEq, not_true_eq_false, not_false_eq_true, pl0, if_true, cmpS_eq, cmpS_neq, Bool.not_eq_eq_eq_not, Bool.not_true, Bool.not_false, Bool.not_eq_true', add64, sub64] at h) <;> (try (exfalso; omega))) | (with_reducible refine tr_alt (fun h => ?_) ?_ <;> (try (exfalso; omega))) | (with_reducible refine tr_ob ?_ ?_) | (with_reducible refine tr_done ?_) | (refine aw_dr1 (id := 6) hj tok hm (bookG7 x_rlsOf x_dupR x_strsOf x_idxS x_nameI x_termI) true [(0, false), (1, false), (2, true), (3, true), (4, true), (5, true), (6, true), (7, true), (8, false), (9, false), (10, false), (11, false), (12, false), (13, false), (14, false), (16, false), (15, true), (17, true), (18, true)] (by kernel_rfl) (by cbv) ?_) | (refine aw_dr (id := 6) hj tok hm (bookG7 x_rlsOf x_dupR x_strsOf x_idxS x_nameI x_termI) true [(0, false), (1, false), (2, true), (3, true), (4, true), (5, true), (6, true), (7, true), (8, false), (9, false), (10, false), (11, false), (12, false), (13, false), (14, false), (16, false), (15, true), (17, true), (18, true)] (by kernel_rfl) (by cbv) ?_) | (refine aw_tr hj tok (bookG7 x_rlsOf x_dupR x_strsOf x_idxS x_nameI x_termI) (by cbv) ?_) | (refine aw_seq fun K hK => ?_) | (refine aw_tr1 hj tok (bookG7 x_rlsOf x_dupR x_strsOf x_idxS x_nameI x_termI) (by cbv) ?_) | (refine aw_skip ?_) | (refine aw_block ?_) | (refine aw_exit ?_) | (refine aw_ret ⟨.inr rfl, ret_okj hj (by cbv) ?_ ?_⟩) | (refine aw_ret ?_) | (with_reducible refine th_n ?_) | (with_reducible refine th_r ?_) | (with_reducible refine th_x ?_) | (with_reducible refine blk_n ?_) | (with_reducible refine blk_r ?_) | (with_reducible refine blk_x ?_) | (with_reducible refine blk_y rfl ?_) | (refine ⟨.inr rfl, ret_okj hj (by cbv) ?_ ?_⟩) | (refine ⟨.inl rfl, ret_okj hj (by cbv) ?_ ?_⟩) | ((with_reducible refine ⟨(_, _, _, _, _, _, _), by cbv, ?_, ?_⟩)) | ((with_reducible refine ⟨(_, _, _, _, _, _), by cbv, ?_, ?_⟩)) | ((with_reducible refine ⟨(_, _, _, _, _), by cbv, ?_, ?_⟩)) | ((with_reducible refine ⟨(_, _, _, _), by cbv, ?_, ?_⟩)) | ((with_reducible refine ⟨(_, _, _), by cbv, ?_, ?_⟩)) | ((with_reducible refine ⟨(_, _), by cbv, ?_, ?_⟩)) | ((with_reducible refine ⟨_, by cbv, ?_, ?_⟩)) | (with_reducible apply_assumption -symm -exfalso only [*]))
  all_goals ((try subst y_rlsOf); (try subst y_dupR); (try subst y_strsOf); (try subst y_idxS); (try subst y_nameI); (try subst y_termI); (try subst y_rC); (try subst y_nR); (try subst y_dstS); (try subst y_badI); (try subst y_fitR); (try subst y_validG); (try subst y_sC); (try subst y_iC); (try subst y_nS); (try subst y_nI))
  all_goals (try have q1 := ‹nameI _ = true›)
  all_goals (try have q1 := ‹nameI _ = false›)
  all_goals (try rw [gs_sC] at q1)
  all_goals (try have q2 := ‹idxS _ _ = i›)
  all_goals (try have q2 := ‹¬ idxS _ _ = i›)
  all_goals (try rw [strsOf_sC, gs_sC] at q2)
  all_goals (try (repeat' first | with_reducible exact obl0 | with_reducible refine obl1 ?_ ?_))
  all_goals (try first | with_reducible exact True.intro | (refine ob_pc hj ?_; (try rw [hj]); first | exact c_Name12 (hnn (by omega)) | exact c_Find (by omega)) | (refine ob_pcn hj ?_; (try rw [hj]); first | exact c_Name12 (hnn (by omega)) | exact c_Find (by omega)) | ((first | refine ob_le hj ?_ | refine ob_lei hj ?_ | refine ob_inb hj ?_ | refine ob_pos hj ?_ | refine ob_ne0 hj ?_ | refine ob_eqb hj ?_); (first | rfl | first | omega | (simp only [hj, std]; split <;> omega) | (simp (disch := omega) only [hj, std, cmpI, cmpB, satB, add64, sub64, ite0, pl0, pl2, pl3, sb0, if_true, if_false, eq_self, sC_len] <;> omega) | (simp (disch := omega) [hj, std, cmpI, cmpB, satB, add64, sub64, ite0, pl0, pl2, pl3, sb0, if_true, if_false, eq_self, sC_len] <;> omega))) | ((refine ob_ok hj ?_; simp only [hj, std, ite0]; exact ok_sC (by omega))) | ((refine r1b ?_; exact valid_no2 (dst_no1 i i1 (by omega) q1))) | ((refine r1b ?_; exact valid_no2 (dst_no3 i1 (by omega) q2))))
  · have hil : i < nS ns := by assumption
    refine aw_lpj hj [(1, .keep), (3, .keep), (4, .keep), (5, .keep)] [1] (fun (⟨k, b⟩ : Int × Bool) => stOf 160 [(1, .one (.ptr 1 0)), (3, .one (.c (vI i))), (4, .one (.c (vB b))), (5, .one (.c (vI k)))] [(1, .box [.st ((C.sl (nS ns) (sC ns))), .st ((C.sl (nS ts) (sC ts))), .st ((C.sl (nR rs) (rC rs)))])]) (fun (⟨k, b⟩ : Int × Bool) => nR rs - k.toNat) (fun (⟨k, b⟩ : Int × Bool) => 0 ≤ k ∧ k ≤ nR rs ∧ b = hasL rs i k) ((0, false)) (by generalize @rlsOf = x_rlsOf; generalize @dupR = x_dupR; generalize @strsOf = x_strsOf; generalize @idxS = x_idxS; generalize @nameI = x_nameI; generalize @termI = x_termI; generalize @rC = x_rC; generalize @nR = x_nR; generalize @dstS = x_dstS; generalize @badI = x_badI; generalize @fitR = x_fitR; generalize @validG = x_validG; generalize @sC = x_sC; generalize @iC = x_iC; generalize @nS = x_nS; generalize @nI = x_nI; cbv) ?_ (fun ⟨k, b⟩ hI => ?_)
    · exact ⟨by omega, by omega, rfl⟩
    obtain ⟨k1, k2, k3⟩ := hI
    generalize y_rlsOf : @rlsOf = x_rlsOf at *
    generalize y_dupR : @dupR = x_dupR at *
    generalize y_strsOf : @strsOf = x_strsOf at *
    generalize y_idxS : @idxS = x_idxS at *
    generalize y_nameI : @nameI = x_nameI at *
    generalize y_termI : @termI = x_termI at *
    generalize y_rC : @rC = x_rC at *
    generalize y_nR : @nR = x_nR at *
    generalize y_dstS : @dstS = x_dstS at *
    generalize y_badI : @badI = x_badI at *
    generalize y_fitR : @fitR = x_fitR at *
    generalize y_validG : @validG = x_validG at *
    generalize y_sC : @sC = x_sC at *
    generalize y_iC : @iC = x_iC at *
    generalize y_nS : @nS = x_nS at *
    generalize y_nI : @nI = x_nI at *
    (repeat' first | ((first | with_reducible refine tr_cut (fun h => ?_) (fun h => ?_) | refine aw_condj (by cbv) (fun h => ?_) (fun h => ?_)) <;> (try simp (disch := omega) only [hj, std, cmpI, cmpB, satB, Bool.not_eq_true, Bool.not_eq_false, decide_eq_true_eq, decide_eq_false_iff_not, beq_iff_eq, bne_iff_ne, bne_eq_false_iff_eq, beq_eq_false_iff_ne, ne_eq, reduceCtorEq, not_true_eq_false, not_false_eq_true, pl0, if_true, cmpS_eq, cmpS_neq, Bool.not_eq_eq_eq_not, Bool.not_true, Bool.not_false, Bool.not_eq_true', add64, sub64] at h) <;> (try (exfalso; omega))) | (with_reducible refine tr_alt (fun h => ?_) ?_ <;> (try (exfalso; omega))) | (with_reducible refine tr_ob ?_ ?_) | (with_reducible refine tr_done ?_) | (refine aw_tr hj tok (bookG7 x_rlsOf x_dupR x_strsOf x_idxS x_nameI x_termI) (by cbv) ?_) | (refine aw_seq fun K hK => ?_) | (refine aw_tr1 hj tok (bookG7 x_rlsOf x_dupR x_strsOf x_idxS x_nameI x_termI) (by cbv) ?_) | (refine aw_skip ?_) | (refine aw_block ?_) | (refine aw_exit ?_) | (refine aw_ret ⟨.inr rfl, ret_okj hj (by cbv) ?_ ?_⟩) | (refine aw_ret ?_) | (with_reducible refine th_n ?_) | (with_reducible refine th_r ?_) | (with_reducible refine th_x ?_) | (with_reducible refine blk_n ?_) | (with_reducible refine blk_r ?_) | (with_reducible refine blk_x ?_) | (with_reducible refine blk_y rfl ?_) | (refine ⟨.inr rfl, ret_okj hj (by cbv) ?_ ?_⟩) | (refine ⟨.inl rfl, ret_okj hj (by cbv) ?_ ?_⟩) | ((with_reducible refine ⟨(_, _, _, _, _, _, _), by cbv, ?_, ?_⟩)) | ((with_reducible refine ⟨(_, _, _, _, _, _), by cbv, ?_, ?_⟩)) | ((with_reducible refine ⟨(_, _, _, _, _), by cbv, ?_, ?_⟩)) | ((with_reducible refine ⟨(_, _, _, _), by cbv, ?_, ?_⟩)) | ((with_reducible refine ⟨(_, _, _), by cbv, ?_, ?_⟩)) | ((with_reducible refine ⟨(_, _), by cbv, ?_, ?_⟩)) | ((with_reducible refine ⟨_, by cbv, ?_, ?_⟩)) | (with_reducible apply_assumption -symm -exfalso only [*]))
    all_goals ((try subst y_rlsOf); (try subst y_dupR); (try subst y_strsOf); (try subst y_idxS); (try subst y_nameI); (try subst y_termI); (try subst y_rC); (try subst y_nR); (try subst y_dstS); (try subst y_badI); (try subst y_fitR); (try subst y_validG); (try subst y_sC); (try subst y_iC); (try subst y_nS); (try subst y_nI))
    all_goals (try have q := ‹gi (cellAt (rC rs) _) = i›)
    all_goals (try have q := ‹¬ gi (cellAt (rC rs) _) = i›)
    all_goals (try rw [gi_rC] at q)
    all_goals (try have r := ‹b = true›)
    all_goals (try have r := ‹b = false›)
    all_goals (try have he := (hasL_end (rs := rs) (i := i) (k := k) (by omega)))
    all_goals (try (repeat' first | with_reducible exact obl0 | with_reducible refine obl1 ?_ ?_))
    all_goals (try first | with_reducible exact True.intro | ((first | refine ob_le hj ?_ | refine ob_lei hj ?_ | refine ob_inb hj ?_ | refine ob_pos hj ?_ | refine ob_ne0 hj ?_ | refine ob_eqb hj ?_); (first | rfl | first | omega | (simp only [hj, std]; split <;> omega) | (simp (disch := omega) only [hj, std, cmpI, cmpB, satB, add64, sub64, ite0, pl0, pl2, pl3, sb0, if_true, if_false, eq_self, rC_len] <;> omega) | (simp (disch := omega) [hj, std, cmpI, cmpB, satB, add64, sub64, ite0, pl0, pl2, pl3, sb0, if_true, if_false, eq_self, rC_len] <;> omega))) | ((refine ob_ok hj ?_; simp only [hj, std, ite0]; first | exact ok_rC1 (by omega) | exact ok_rC0 (by omega))) | ((refine r1b ?_; refine valid_no5 i1 hil fun r hr e => ?_; have h8 := he.2 ⟨r, hr, e⟩; rw [← k3] at h8; simp_all)) | ((simp (disch := omega) only [hj, std, add64]; first | omega | exact ⟨by omega, by omega, by rw [hasL_step k1 (by omega), q]; simp⟩ | exact ⟨by omega, by omega, by rw [hasL_step k1 (by omega), ← k3, decide_eq_false q]; simp⟩ | (refine ⟨by omega, by omega, fun n hn => ?_, fun n hn => ?_, fun n hn => ?_⟩; by_cases e : (n : Int) < i; exact i3 n e; obtain rfl : n = i.toNat := (by omega); exact q1; by_cases e : (n : Int) < i; exact i4 n e; obtain rfl : n = i.toNat := (by omega); rw [q2]; omega; by_cases e : (n : Int) < i; exact i5 n e; obtain rfl : n = i.toNat := (by omega); have h8 := he.1 (by rw [← k3]; exact r); rw [show ((i.toNat : Nat) : Int) = i by omega]; exact h8))))
  have hA : dstS nameI ns = true := dst_all (fun n hn => i3 n (by omega)) (fun n hn => i4 n (by omega))
  have hA5 : ∀ n : Nat, n < nS ns → ∃ r ∈ rs, r.1 = (n : Int) := fun n hn => i5 n (by omega)
  clear i3 i4 i5
  refine aw_lpj hj [(1, .keep), (6, .keep)] [1] (fun (m : Int) => stOf 160 [(1, .one (.ptr 1 0)), (6, .one (.c (vI m)))] [(1, .box [.st ((C.sl (nS ns) (sC ns))), .st ((C.sl (nS ts) (sC ts))), .st ((C.sl (nR rs) (rC rs)))])]) (fun (m : Int) => nS ts - m.toNat) (fun (m : Int) => 0 ≤ m ∧ m ≤ nS ts ∧ (∀ n : Nat, (n : Int) < m → termI (sAt ts n) = true) ∧ (∀ n : Nat, (n : Int) < m → idxS ts (sAt ts n) = (n : Int))) (0) (by generalize @rlsOf = x_rlsOf; generalize @dupR = x_dupR; generalize @strsOf = x_strsOf; generalize @idxS = x_idxS; generalize @nameI = x_nameI; generalize @termI = x_termI; generalize @rC = x_rC; generalize @nR = x_nR; generalize @dstS = x_dstS; generalize @badI = x_badI; generalize @fitR = x_fitR; generalize @validG = x_validG; generalize @sC = x_sC; generalize @iC = x_iC; generalize @nS = x_nS; generalize @nI = x_nI; cbv) ?_ (fun m hI => ?_)
  · exact ⟨by omega, by omega, fun n h => by omega, fun n h => by omega⟩
  obtain ⟨m1, m2, m3, m4⟩ := hI
  have hmm : m < nS ts → (gs (cellAt (sC ts) m.toNat)).size ≤ 1000000 := fun h => by rw [gs_sC]; exact hS.u _ (sAt_mem ts m m1 h)
  generalize y_rlsOf : @rlsOf = x_rlsOf at *
  generalize y_dupR : @dupR = x_dupR at *
  generalize y_strsOf : @strsOf = x_strsOf at *
  generalize y_idxS : @idxS = x_idxS at *
  generalize y_nameI : @nameI = x_nameI at *
  generalize y_termI : @termI = x_termI at *
  generalize y_rC : @rC = x_rC at *
  generalize y_nR : @nR = x_nR at *
  generalize y_dstS : @dstS = x_dstS at *
  generalize y_badI : @badI = x_badI at *
  generalize y_fitR : @fitR = x_fitR at *
  generalize y_validG : @validG = x_validG at *
  generalize y_sC : @sC = x_sC at *
  generalize y_iC : @iC = x_iC at *
  generalize y_nS : @nS = x_nS at *
  generalize y_nI : @nI = x_nI at *
  (repeat' first | ((first | with_reducible refine tr_cut (fun h => ?_) (fun h => ?_) | refine aw_condj (by cbv) (fun h => ?_) (fun h => ?_)) <;> (try simp (disch := omega) only [hj, std, cmpI, cmpB, satB, Bool.not_eq_true, Bool.not_eq_false, decide_eq_true_eq, decide_eq_false_iff_not, beq_iff_eq, bne_iff_ne, bne_eq_false_iff_eq, beq_eq_false_iff_ne, ne_eq, reduceCtorEq, not_true_eq_false, not_false_eq_true, pl0, if_true, cmpS_eq, cmpS_neq, Bool.not_eq_eq_eq_not, Bool.not_true, Bool.not_false, Bool.not_eq_true', add64, sub64] at h) <;> (try (exfalso; omega))) | (with_reducible refine tr_alt (fun h => ?_) ?_ <;> (try (exfalso; omega))) | (with_reducible refine tr_ob ?_ ?_) | (with_reducible refine tr_done ?_) | (refine aw_dr1 (id := 19) hj tok hm (bookG7 x_rlsOf x_dupR x_strsOf x_idxS x_nameI x_termI) true [(0, false), (1, false), (2, true), (3, true), (4, true), (5, true), (6, true), (7, true), (8, false), (9, false), (10, false), (11, false), (12, false), (13, false), (14, false), (16, false), (15, true), (17, true), (18, true)] (by kernel_rfl) (by cbv) ?_) | (refine aw_dr (id := 19) hj tok hm (bookG7 x_rlsOf x_dupR x_strsOf x_idxS x_nameI x_termI) true [(0, false), (1, false), (2, true), (3, true), (4, true), (5, true), (6, true), (7, true), (8, false), (9, false), (10, false), (11, false), (12, false), (13, false), (14, false), (16, false), (15, true), (17, true), (18, true)] (by kernel_rfl) (by cbv) ?_) | (refine aw_tr hj tok (bookG7 x_rlsOf x_dupR x_strsOf x_idxS x_nameI x_termI) (by cbv) ?_) | (refine aw_seq fun K hK => ?_) | (refine aw_tr1 hj tok (bookG7 x_rlsOf x_dupR x_strsOf x_idxS x_nameI x_termI) (by cbv) ?_) | (refine aw_skip ?_) | (refine aw_block ?_) | (refine aw_exit ?_) | (refine aw_ret ⟨.inr rfl, ret_okj hj (by cbv) ?_ ?_⟩) | (refine aw_ret ?_) | (with_reducible refine th_n ?_) | (with_reducible refine th_r ?_) | (with_reducible refine th_x ?_) | (with_reducible refine blk_n ?_) | (with_reducible refine blk_r ?_) | (with_reducible refine blk_x ?_) | (with_reducible refine blk_y rfl ?_) | (refine ⟨.inr rfl, ret_okj hj (by cbv) ?_ ?_⟩) | (refine ⟨.inl rfl, ret_okj hj (by cbv) ?_ ?_⟩) | ((with_reducible refine ⟨(_, _, _, _, _, _, _), by cbv, ?_, ?_⟩)) | ((with_reducible refine ⟨(_, _, _, _, _, _), by cbv, ?_, ?_⟩)) | ((with_reducible refine ⟨(_, _, _, _, _), by cbv, ?_, ?_⟩)) | ((with_reducible refine ⟨(_, _, _, _), by cbv, ?_, ?_⟩)) | ((with_reducible refine ⟨(_, _, _), by cbv, ?_, ?_⟩)) | ((with_reducible refine ⟨(_, _), by cbv, ?_, ?_⟩)) | ((with_reducible refine ⟨_, by cbv, ?_, ?_⟩)) | (with_reducible apply_assumption -symm -exfalso only [*]))
  all_goals ((try subst y_rlsOf); (try subst y_dupR); (try subst y_strsOf); (try subst y_idxS); (try subst y_nameI); (try subst y_termI); (try subst y_rC); (try subst y_nR); (try subst y_dstS); (try subst y_badI); (try subst y_fitR); (try subst y_validG); (try subst y_sC); (try subst y_iC); (try subst y_nS); (try subst y_nI))
  all_goals (try have q1 := ‹termI _ = true›)
  all_goals (try have q1 := ‹termI _ = false›)
  all_goals (try rw [gs_sC] at q1)
  all_goals (try have q2 := ‹idxS _ _ = m›)
  all_goals (try have q2 := ‹¬ idxS _ _ = m›)
  all_goals (try rw [strsOf_sC, gs_sC] at q2)
  all_goals (try (repeat' first | with_reducible exact obl0 | with_reducible refine obl1 ?_ ?_))
  all_goals (try first | with_reducible exact True.intro | (refine ob_pc hj ?_; (try rw [hj]); first | exact c_Term12 (hmm (by omega)) | exact c_Find (by omega)) | (refine ob_pcn hj ?_; (try rw [hj]); first | exact c_Term12 (hmm (by omega)) | exact c_Find (by omega)) | ((first | refine ob_le hj ?_ | refine ob_lei hj ?_ | refine ob_inb hj ?_ | refine ob_pos hj ?_ | refine ob_ne0 hj ?_ | refine ob_eqb hj ?_); (first | rfl | first | omega | (simp only [hj, std]; split <;> omega) | (simp (disch := omega) only [hj, std, cmpI, cmpB, satB, add64, sub64, ite0, pl0, pl2, pl3, sb0, if_true, if_false, eq_self, sC_len] <;> omega) | (simp (disch := omega) [hj, std, cmpI, cmpB, satB, add64, sub64, ite0, pl0, pl2, pl3, sb0, if_true, if_false, eq_self, sC_len] <;> omega))) | ((refine ob_ok hj ?_; simp only [hj, std, ite0]; exact ok_sC (by omega))) | ((refine r1b ?_; exact valid_no3 (dst_no1 m m1 (by omega) q1))) | ((refine r1b ?_; exact valid_no3 (dst_no3 m1 (by omega) q2))) | ((simp (disch := omega) only [hj, std, add64]; first | omega | (refine ⟨by omega, by omega, fun n hn => ?_, fun n hn => ?_⟩; by_cases e : (n : Int) < m; exact m3 n e; obtain rfl : n = m.toNat := (by omega); exact q1; by_cases e : (n : Int) < m; exact m4 n e; obtain rfl : n = m.toNat := (by omega); rw [q2]; omega))))
  have hB : dstS termI ts = true := dst_all (fun n hn => m3 n (by omega)) (fun n hn => m4 n (by omega))
  clear m3 m4
  refine aw_lpj hj [(1, .keep), (7, .keep)] [1] (fun (p : Int) => stOf 160 [(1, .one (.ptr 1 0)), (7, .one (.c (vI p)))] [(1, .box [.st ((C.sl (nS ns) (sC ns))), .st ((C.sl (nS ts) (sC ts))), .st ((C.sl (nR rs) (rC rs)))])]) (fun (p : Int) => nR rs - p.toNat) (fun (p : Int) => 0 ≤ p ∧ p ≤ nR rs ∧ ∀ n : Nat, (n : Int) < p → fitR (nS ns) (nS ts) (rAt rs n) = true) (0) (by generalize @rlsOf = x_rlsOf; generalize @dupR = x_dupR; generalize @strsOf = x_strsOf; generalize @idxS = x_idxS; generalize @nameI = x_nameI; generalize @termI = x_termI; generalize @rC = x_rC; generalize @nR = x_nR; generalize @dstS = x_dstS; generalize @badI = x_badI; generalize @fitR = x_fitR; generalize @validG = x_validG; generalize @sC = x_sC; generalize @iC = x_iC; generalize @nS = x_nS; generalize @nI = x_nI; cbv) ?_ (fun p hI => ?_)
  · exact ⟨by omega, by omega, fun n h => by omega⟩
  obtain ⟨p1, p2, p3⟩ := hI
  have e1 : gi (cellAt (rC rs) (p.toNat * 2)) = (rAt rs p.toNat).1 := gi_rC _ _
  have e2 : gn (cellAt (rC rs) (p.toNat * 2 + 1)) = nI (rAt rs p.toNat).2 := gn_rC _ _
  have e3 : gc (cellAt (rC rs) (p.toNat * 2 + 1)) = iC (rAt rs p.toNat).2 := gc_rC _ _
  generalize y_rlsOf : @rlsOf = x_rlsOf at *
  generalize y_dupR : @dupR = x_dupR at *
  generalize y_strsOf : @strsOf = x_strsOf at *
  generalize y_idxS : @idxS = x_idxS at *
  generalize y_nameI : @nameI = x_nameI at *
  generalize y_termI : @termI = x_termI at *
  generalize y_rC : @rC = x_rC at *
  generalize y_nR : @nR = x_nR at *
  generalize y_dstS : @dstS = x_dstS at *
  generalize y_badI : @badI = x_badI at *
  generalize y_fitR : @fitR = x_fitR at *
  generalize y_validG : @validG = x_validG at *
  generalize y_sC : @sC = x_sC at *
  generalize y_iC : @iC = x_iC at *
  generalize y_nS : @nS = x_nS at *
  generalize y_nI : @nI = x_nI at *
  (repeat' first | ((first | with_reducible refine tr_cut (fun h => ?_) (fun h => ?_) | refine aw_condj (by cbv) (fun h => ?_) (fun h => ?_)) <;> (try simp (disch := omega) only [hj, std, cmpI, cmpB, satB, Bool.not_eq_true, Bool.not_eq_false, decide_eq_true_eq, decide_eq_false_iff_not, beq_iff_eq, bne_iff_ne, bne_eq_false_iff_eq, beq_eq_false_iff_ne, ne_eq, reduceCtorEq, not_true_eq_false, not_false_eq_true, pl0, if_true, cmpS_eq, cmpS_neq, Bool.not_eq_eq_eq_not, Bool.not_true, Bool.not_false, Bool.not_eq_true', add64, sub64] at h) <;> (try (exfalso; omega))) | (with_reducible refine tr_alt (fun h => ?_) ?_ <;> (try (exfalso; omega))) | (with_reducible refine tr_ob ?_ ?_) | (with_reducible refine tr_done ?_) | (refine aw_tr hj tok (bookG7 x_rlsOf x_dupR x_strsOf x_idxS x_nameI x_termI) (by cbv) ?_) | (refine aw_seq fun K hK => ?_) | (refine aw_tr1 hj tok (bookG7 x_rlsOf x_dupR x_strsOf x_idxS x_nameI x_termI) (by cbv) ?_) | (refine aw_skip ?_) | (refine aw_block ?_) | (refine aw_exit ?_) | (refine aw_ret ⟨.inr rfl, ret_okj hj (by cbv) ?_ ?_⟩) | (refine aw_ret ?_) | (with_reducible refine th_n ?_) | (with_reducible refine th_r ?_) | (with_reducible refine th_x ?_) | (with_reducible refine blk_n ?_) | (with_reducible refine blk_r ?_) | (with_reducible refine blk_x ?_) | (with_reducible refine blk_y rfl ?_) | (refine ⟨.inr rfl, ret_okj hj (by cbv) ?_ ?_⟩) | (refine ⟨.inl rfl, ret_okj hj (by cbv) ?_ ?_⟩) | ((with_reducible refine ⟨(_, _, _, _, _, _, _), by cbv, ?_, ?_⟩)) | ((with_reducible refine ⟨(_, _, _, _, _, _), by cbv, ?_, ?_⟩)) | ((with_reducible refine ⟨(_, _, _, _, _), by cbv, ?_, ?_⟩)) | ((with_reducible refine ⟨(_, _, _, _), by cbv, ?_, ?_⟩)) | ((with_reducible refine ⟨(_, _, _), by cbv, ?_, ?_⟩)) | ((with_reducible refine ⟨(_, _), by cbv, ?_, ?_⟩)) | ((with_reducible refine ⟨_, by cbv, ?_, ?_⟩)) | (with_reducible apply_assumption -symm -exfalso only [*]))
  all_goals ((try subst y_rlsOf); (try subst y_dupR); (try subst y_strsOf); (try subst y_idxS); (try subst y_nameI); (try subst y_termI); (try subst y_rC); (try subst y_nR); (try subst y_dstS); (try subst y_badI); (try subst y_fitR); (try subst y_validG); (try subst y_sC); (try subst y_iC); (try subst y_nS); (try subst y_nI))
  all_goals (try (repeat' first | with_reducible exact obl0 | with_reducible refine obl1 ?_ ?_))
  all_goals (try first | with_reducible exact True.intro | (refine ob_pc hj ?_; (try rw [hj]); first | exact c_tw14 hc hS.i) | (refine ob_pcn hj ?_; (try rw [hj]); first | exact c_tw14 hc hS.i) | ((first | refine ob_le hj ?_ | refine ob_lei hj ?_ | refine ob_inb hj ?_ | refine ob_pos hj ?_ | refine ob_ne0 hj ?_ | refine ob_eqb hj ?_); (first | rfl | first | omega | (simp only [hj, std]; split <;> omega) | (simp (disch := omega) only [hj, std, cmpI, cmpB, satB, add64, sub64, ite0, pl0, pl2, pl3, sb0, if_true, if_false, eq_self, rC_len] <;> omega) | (simp (disch := omega) [hj, std, cmpI, cmpB, satB, add64, sub64, ite0, pl0, pl2, pl3, sb0, if_true, if_false, eq_self, rC_len] <;> omega))) | ((refine ob_ok hj ?_; simp only [hj, std, ite0]; first | exact ok_rC1 (by omega) | exact ok_rC0 (by omega))) | ((refine r1b ?_; exact valid_no4 p1 (by omega) (fit_no1 (x := (rAt rs p.toNat).1) (l := (rAt rs p.toNat).2) (by omega)))) | ((refine r1b ?_; rw [valid_at (by omega) hA hB (fun n hn => p3 n (by omega)) hA5, rlsOf_rC, hj]; rfl)))
  have hpl : p < nR rs := by assumption
  have hR := hS.i _ (rAt_mem rs p p1 hpl)
  have hx : 0 ≤ (rAt rs p.toNat).1 ∧ (rAt rs p.toNat).1 < nS ns ∧ nI (rAt rs p.toNat).2 ≤ 64 := by omega
  generalize hRl : rAt rs p.toNat = R at *
  refine aw_lpj hj [(1, .keep), (7, .keep), (8, .keep), (9, .keep)] [1, 8] (fun (⟨k, x, n, cs⟩ : Int × Int × Nat × (List C)) => stOf 160 [(1, .one (.ptr 1 0)), (7, .one (.c (vI p))), (8, .one (.ptr 8 0)), (9, .one (.c (vI k)))] [(1, .box [.st ((C.sl (nS ns) (sC ns))), .st ((C.sl (nS ts) (sC ts))), .st ((C.sl (nR rs) (rC rs)))]), (8, .box [.st (.val (.int .i64 x)), .st (.sl n cs)])]) (fun (⟨k, x, n, cs⟩ : Int × Int × Nat × (List C)) => nI R.2 - k.toNat) (fun (⟨k, x, n, cs⟩ : Int × Int × Nat × (List C)) => 0 ≤ k ∧ k ≤ nI R.2 ∧ n = nI R.2 ∧ cs = iC R.2 ∧ ∀ a : Nat, (a : Int) < k → badI (nS ns) (nS ts) (iAt R.2 a) = false) ((0, j.gi (j.cell (rC rs) (j.mul (j.toNat p) 2)), j.gn (j.cell (rC rs) (j.add (j.mul (j.toNat p) 2) 1)), j.gc (j.cell (rC rs) (j.add (j.mul (j.toNat p) 2) 1)))) (by generalize @rlsOf = x_rlsOf; generalize @dupR = x_dupR; generalize @strsOf = x_strsOf; generalize @idxS = x_idxS; generalize @nameI = x_nameI; generalize @termI = x_termI; generalize @rC = x_rC; generalize @nR = x_nR; generalize @dstS = x_dstS; generalize @badI = x_badI; generalize @fitR = x_fitR; generalize @validG = x_validG; generalize @sC = x_sC; generalize @iC = x_iC; generalize @nS = x_nS; generalize @nI = x_nI; cbv) ?_ (fun ⟨k, x, n, cs⟩ hI => ?_)
  · refine ⟨by omega, by omega, ?_, ?_, fun n h => by omega⟩
    · rw [hj]; exact e2
    · rw [hj]; exact e3
  obtain ⟨k1, k2, rfl, rfl, k3⟩ := hI
  have e4 : gi (cellAt (iC R.2) k.toNat) = iAt R.2 k.toNat := gi_iC _ _
  have nR2 := nI_eq R.2
  generalize y_rlsOf : @rlsOf = x_rlsOf at *
  generalize y_dupR : @dupR = x_dupR at *
  generalize y_strsOf : @strsOf = x_strsOf at *
  generalize y_idxS : @idxS = x_idxS at *
  generalize y_nameI : @nameI = x_nameI at *
  generalize y_termI : @termI = x_termI at *
  generalize y_rC : @rC = x_rC at *
  generalize y_nR : @nR = x_nR at *
  generalize y_dstS : @dstS = x_dstS at *
  generalize y_badI : @badI = x_badI at *
  generalize y_fitR : @fitR = x_fitR at *
  generalize y_validG : @validG = x_validG at *
  generalize y_sC : @sC = x_sC at *
  generalize y_iC : @iC = x_iC at *
  generalize y_nS : @nS = x_nS at *
  generalize y_nI : @nI = x_nI at *
  (repeat' first | ((first | with_reducible refine tr_cut (fun h => ?_) (fun h => ?_) | refine aw_condj (by cbv) (fun h => ?_) (fun h => ?_)) <;> (try simp (disch := omega) only [hj, std, cmpI, cmpB, satB, Bool.not_eq_true, Bool.not_eq_false, decide_eq_true_eq, decide_eq_false_iff_not, beq_iff_eq, bne_iff_ne, bne_eq_false_iff_eq, beq_eq_false_iff_ne, ne_eq, reduceCtorEq, not_true_eq_false, not_false_eq_true, pl0, if_true, cmpS_eq, cmpS_neq, Bool.not_eq_eq_eq_not, Bool.not_true, Bool.not_false, Bool.not_eq_true', add64, sub64] at h) <;> (try (exfalso; omega))) | (with_reducible refine tr_alt (fun h => ?_) ?_ <;> (try (exfalso; omega))) | (with_reducible refine tr_ob ?_ ?_) | (with_reducible refine tr_done ?_) | (refine aw_dr1 (id := 30) hj tok hm (bookG7 x_rlsOf x_dupR x_strsOf x_idxS x_nameI x_termI) true [(0, false), (1, false), (2, false), (3, false), (4, false), (5, true), (6, true), (7, true), (8, true), (9, true), (10, false), (11, false), (12, false), (13, false), (14, false), (15, true), (16, true), (17, true), (18, true), (19, true), (20, true)] (by kernel_rfl) (by cbv) ?_) | (refine aw_dr (id := 30) hj tok hm (bookG7 x_rlsOf x_dupR x_strsOf x_idxS x_nameI x_termI) true [(0, false), (1, false), (2, false), (3, false), (4, false), (5, true), (6, true), (7, true), (8, true), (9, true), (10, false), (11, false), (12, false), (13, false), (14, false), (15, true), (16, true), (17, true), (18, true), (19, true), (20, true)] (by kernel_rfl) (by cbv) ?_) | (refine aw_tr hj tok (bookG7 x_rlsOf x_dupR x_strsOf x_idxS x_nameI x_termI) (by cbv) ?_) | (refine aw_seq fun K hK => ?_) | (refine aw_tr1 hj tok (bookG7 x_rlsOf x_dupR x_strsOf x_idxS x_nameI x_termI) (by cbv) ?_) | (refine aw_skip ?_) | (refine aw_block ?_) | (refine aw_exit ?_) | (refine aw_ret ⟨.inr rfl, ret_okj hj (by cbv) ?_ ?_⟩) | (refine aw_ret ?_) | (with_reducible refine th_n ?_) | (with_reducible refine th_r ?_) | (with_reducible refine th_x ?_) | (with_reducible refine blk_n ?_) | (with_reducible refine blk_r ?_) | (with_reducible refine blk_x ?_) | (with_reducible refine blk_y rfl ?_) | (refine ⟨.inr rfl, ret_okj hj (by cbv) ?_ ?_⟩) | (refine ⟨.inl rfl, ret_okj hj (by cbv) ?_ ?_⟩) | ((with_reducible refine ⟨(_, _, _, _, _, _, _), by cbv, ?_, ?_⟩)) | ((with_reducible refine ⟨(_, _, _, _, _, _), by cbv, ?_, ?_⟩)) | ((with_reducible refine ⟨(_, _, _, _, _), by cbv, ?_, ?_⟩)) | ((with_reducible refine ⟨(_, _, _, _), by cbv, ?_, ?_⟩)) | ((with_reducible refine ⟨(_, _, _), by cbv, ?_, ?_⟩)) | ((with_reducible refine ⟨(_, _), by cbv, ?_, ?_⟩)) | ((with_reducible refine ⟨_, by cbv, ?_, ?_⟩)) | (with_reducible apply_assumption -symm -exfalso only [*]))
  all_goals ((try subst y_rlsOf); (try subst y_dupR); (try subst y_strsOf); (try subst y_idxS); (try subst y_nameI); (try subst y_termI); (try subst y_rC); (try subst y_nR); (try subst y_dstS); (try subst y_badI); (try subst y_fitR); (try subst y_validG); (try subst y_sC); (try subst y_iC); (try subst y_nS); (try subst y_nI))
  all_goals (try (repeat' first | with_reducible exact obl0 | with_reducible refine obl1 ?_ ?_))
  all_goals (try first | with_reducible exact True.intro | ((first | refine ob_le hj ?_ | refine ob_lei hj ?_ | refine ob_inb hj ?_ | refine ob_pos hj ?_ | refine ob_ne0 hj ?_ | refine ob_eqb hj ?_); (first | rfl | first | omega | (simp only [hj, std]; split <;> omega) | (simp (disch := omega) only [hj, std, cmpI, cmpB, satB, add64, sub64, ite0, pl0, pl2, pl3, sb0, if_true, if_false, eq_self, iC_len] <;> omega) | (simp (disch := omega) [hj, std, cmpI, cmpB, satB, add64, sub64, ite0, pl0, pl2, pl3, sb0, if_true, if_false, eq_self, iC_len] <;> omega))) | ((refine ob_ok hj ?_; simp only [hj, std, ite0]; exact ok_iC (by omega))) | ((refine r1b ?_; refine valid_no4 p1 hpl ?_; rw [hRl]; refine fit_no2 k1 (by omega) ?_; unfold badI; rw [decide_eq_true_eq]; omega)) | ((simp (disch := omega) only [hj, std, add64]; first | omega | (refine ⟨by omega, by omega, trivial, trivial, fun a ha => ?_⟩; by_cases e : (a : Int) < k; exact k3 a e; obtain rfl : a = k.toNat := (by omega); unfold badI; rw [decide_eq_false_iff_not]; omega) | (refine ⟨by omega, by omega, fun a ha => ?_⟩; by_cases e : (a : Int) < p; exact p3 a e; obtain rfl : a = p.toNat := (by omega); rw [hRl]; exact fit_all (x := R.1) (l := R.2) hx fun b hb => k3 b (by omega)))))
end Go.Proofs.Ytdmdcmhgfgookaa.A

/- Grammars that are well made, by the reference: Check; the two answers are the same. -/
set_option linter.unusedSimpArgs false
set_option linter.unusedVariables false
set_option maxRecDepth 100000
set_option maxHeartbeats 4000000
namespace Go.Proofs.Ytdmdcmhgfgookaa.A
open Go
def unusedG (ts : List ByteArray) (rs : List Rl) (D : List Bool) : Bool := (List.range (nS ts)).any fun t => !usedG rs D (t : Int)
def check15 (ns ts : List ByteArray) (rs : List Rl) : Int :=
  if validG ns ts rs = false then 1 else if hasF (prod15 ns rs) = true then 18 else if hasF (reachR ns ts rs) = true then 17 else if unusedG ts rs (reachR ns ts rs) = true then 17 else 0
theorem c_Valid14 {ns ts : List ByteArray} {rs : List Rl} (hS : Sml ns ts rs) : pc 14 [.v true [(C.sl (nS ns) (sC ns)), (C.sl (nS ts) (sC ts)), (C.sl (nR rs) (rC rs))]] (ret1 (.st (vB (validG (strsOf (sC ns)) (strsOf (sC ts)) (rlsOf (rC rs)))))) := by
  rw [strsOf_sC, strsOf_sC, rlsOf_rC]
  exact ⟨enters Try.func14 (by kernel_rfl) (by kernel_rfl), pc_Valid14 ns ts rs hS⟩
theorem c_Prod15 {ns ts : List ByteArray} {rs : List Rl} (hS : Sml ns ts rs) (hv : validG ns ts rs = true) : pc 19 [.v true [(C.sl (nS ns) (sC ns)), (C.sl (nS ts) (sC ts)), (C.sl (nR rs) (rC rs))]] (ret1 (.own boolT (nB (prod15 (strsOf (sC ns)) (rlsOf (rC rs)))) (bC (prod15 (strsOf (sC ns)) (rlsOf (rC rs)))))) := by
  rw [strsOf_sC, rlsOf_rC]
  exact ⟨enters Try.func19 (by kernel_rfl) (by kernel_rfl), pc_Prod15 ns ts rs hS hv⟩
end Go.Proofs.Ytdmdcmhgfgookaa.A

/- Grammars that are well made: the program's answers are the reference's. -/
set_option linter.unusedSimpArgs false
set_option linter.unusedVariables false
set_option maxRecDepth 100000
set_option maxHeartbeats 4000000
namespace Go.Proofs.Ytdmdcmhgfgookaa.A
open Go
def posL (l : List Int) : List Bool := l.map fun n => decide (n ≥ 0)
theorem posL_at {l : List Int} {k : Nat} (h : k < l.length) : bAt (posL l) k = decide (iAt l k ≥ 0) := by
  rw [bAt, iAt, List.getD_eq_getElem?_getD, List.getD_eq_getElem?_getD, posL, List.getElem?_map, List.getElem?_eq_getElem h]; rfl
theorem sumGo_pos (sh : List Int) : ∀ (R : List Int) (n : Int), 0 ≤ n → (∀ s ∈ R, s < sh.length) → ((sumGo sh R n ≥ 0) ↔ allP (posL sh) R = true) := by
  intro R
  induction R with
  | nil => intro n h0 _; unfold sumGo allP; constructor <;> intro _ <;> first | rfl | (split <;> omega)
  | cons s R ih =>
    intro n h0 hs
    have hr : ∀ s ∈ R, s < sh.length := fun x hx => hs x (List.mem_cons_of_mem _ hx)
    have hc : allP (posL sh) (s :: R) = (!(decide (0 ≤ s) && !bAt (posL sh) s.toNat) && allP (posL sh) R) := by unfold allP; rfl
    unfold sumGo
    rw [hc]
    by_cases h1 : s < 0
    · rw [if_pos h1, ih _ (by omega) hr, decide_eq_false (by omega)]; simp
    · have hl := hs s (List.mem_cons_self ..)
      rw [if_neg h1, posL_at (by omega)]
      by_cases h2 : iAt sh s.toNat < 0
      · rw [if_pos h2, decide_eq_true (show 0 ≤ s by omega), decide_eq_false (show ¬ iAt sh s.toNat ≥ 0 by omega)]; simp
      · rw [if_neg h2, ih _ (by omega) hr, decide_eq_true (show iAt sh s.toNat ≥ 0 by omega)]; simp
theorem set_same {l : List Bool} {k : Nat} {b : Bool} (h : k < l.length) (hb : bAt l k = b) : l.set k b = l := by
  rw [bAt, List.getD_eq_getElem?_getD, List.getElem?_eq_getElem h] at hb
  refine List.ext_getElem (by simp) fun i h1 h2 => ?_
  rw [List.getElem_set]
  split
  · rename_i e; subst e; exact hb.symm
  · rfl
theorem stepS_pos {sh : List Int} {r : Rl} (h0 : 0 ≤ r.1) (h1 : r.1 < sh.length) (hs : ∀ s ∈ r.2, s < sh.length) : posL (stepS sh r) = stepP (posL sh) r := by
  have hp := sumGo_pos sh r.2 0 (by omega) hs
  unfold stepS stepP sumG
  by_cases h : sumGo sh r.2 0 ≥ 0
  · rw [if_pos (hp.1 h)]
    by_cases h2 : iAt sh r.1.toNat < 0 ∨ sumGo sh r.2 0 < iAt sh r.1.toNat
    · rw [if_pos ⟨h, h2⟩, posL, List.map_set, decide_eq_true h]; rfl
    · rw [if_neg (fun h3 => h2 h3.2)]
      refine (set_same (by rw [posL, List.length_map]; omega) ?_).symm
      rw [posL_at (by omega), decide_eq_true (by omega)]
  · rw [if_neg (fun h3 => h h3.1), if_neg (fun h3 => h (hp.2 h3))]
theorem pass_pos : ∀ (rs : List Rl) (sh : List Int), (∀ r ∈ rs, 0 ≤ r.1 ∧ r.1 < sh.length ∧ ∀ s ∈ r.2, s < sh.length) → posL (rs.foldl stepS sh) = rs.foldl stepP (posL sh) := by
  intro rs
  induction rs with
  | nil => intro sh _; rfl
  | cons r rs ih =>
    intro sh h
    obtain ⟨h0, h1, h2⟩ := h r (List.mem_cons_self ..)
    rw [List.foldl_cons, List.foldl_cons, ih _ (fun x hx => by rw [stepS_len]; exact h x (List.mem_cons_of_mem _ hx)), stepS_pos h0 h1 h2]
theorem it_pos {rs : List Rl} {sh : List Int} (h : ∀ r ∈ rs, 0 ≤ r.1 ∧ r.1 < sh.length ∧ ∀ s ∈ r.2, s < sh.length) : ∀ n, posL (itS rs n sh) = itP rs n (posL sh) := by
  intro n
  induction n with
  | zero => rfl
  | succ n ih => rw [itS, itP, pass_pos _ _ (by rw [itS_len]; exact h), ih]
theorem prod_eq {ns ts : List ByteArray} {rs : List Rl} (hv : validG ns ts rs = true) : prodR ns ts rs = prod15 ns rs := by
  unfold prodR shortR prod15
  rw [if_pos hv]
  have := it_pos (rs := rs) (sh := List.replicate (nS ns) (-1)) (fun r hr => by
    obtain ⟨f1, f2, f3, f4⟩ := fit_of ((validG_iff.1 hv).2.2.2.1 r hr)
    rw [List.length_replicate]
    exact ⟨f1, f2, fun s hs => (f4 s hs).1⟩) (nS ns + 1)
  unfold posL at this
  rw [this]
  congr 1
  unfold noneP
  rw [List.map_replicate]; rfl
theorem hasF_all {l : List Bool} (h : hasF l = false) {k : Nat} (hk : k < l.length) : bAt l k = true := by
  unfold hasF at h
  rw [List.any_eq_false] at h
  have := h l[k] (List.getElem_mem hk)
  rw [bAt, List.getD_eq_getElem?_getD, List.getElem?_eq_getElem hk]
  simpa using this
end Go.Proofs.Ytdmdcmhgfgookaa.A

/- Grammars that are well made: the law. -/
set_option linter.unusedSimpArgs false
set_option linter.unusedVariables false
set_option maxRecDepth 100000
set_option maxHeartbeats 4000000
namespace Go.Proofs.Ytdmdcmhgfgookaa.A
open Go
def bookAw (x_rlsOf : List C → List Rl) (x_strsOf : List C → List ByteArray) (x_checkG : List ByteArray → List ByteArray → List Rl → Int) : Book := fun f xs => match f, xs with
  | 12, [.v true [.sl _ a, .sl _ b, .sl _ c]] => some (ret1 (.st (vI (x_checkG (x_strsOf a) (x_strsOf b) (x_rlsOf c)))))
  | _, _ => none
theorem c_Check {ns ts : List ByteArray} {rs : List Rl} (hS : Sml ns ts rs) : pc 12 [.v true [(C.sl (nS ns) (sC ns)), (C.sl (nS ts) (sC ts)), (C.sl (nR rs) (rC rs))]] (ret1 (.st (vI (checkG (strsOf (sC ns)) (strsOf (sC ts)) (rlsOf (rC rs)))))) := by
  rw [strsOf_sC, strsOf_sC, rlsOf_rC]
  exact ⟨enters Try.func12 (by kernel_rfl) (by kernel_rfl), pc_Check ns ts rs hS⟩
abbrev b1 (n : UInt8) : ByteArray := ⟨⟨[n]⟩⟩
abbrev aR : List Rl := [(0, [1]), (1, [1, -1])]
abbrev bR : List Rl := [(0, [-1]), (1, [-2])]
abbrev cR : List Rl := [(0, [-1])]
theorem ckA : checkG [b1 83, b1 65] [b1 97] aR = 18 := by kernel_rfl
theorem ckB : checkG [b1 83, b1 66] [b1 97, b1 98] bR = 17 := by kernel_rfl
theorem ckC : checkG [b1 83] [b1 97] cR = 0 := by kernel_rfl
theorem sml_lit {ns ts : List ByteArray} {rs : List Rl} (h : (decide (nS ns ≤ 1000000 ∧ nS ts ≤ 1000000 ∧ nR rs ≤ 1000000) && (rs.all (fun r => decide (nI r.2 ≤ 1000000)) && (ns.all (fun s => decide (s.size ≤ 1000000)) && ts.all (fun s => decide (s.size ≤ 1000000))))) = true) : Sml ns ts rs := by
  simp only [Bool.and_eq_true, decide_eq_true_eq, List.all_eq_true] at h
  exact ⟨h.1.1, h.1.2.1, h.1.2.2, h.2.1, h.2.2.1, h.2.2.2⟩
theorem pc_awake15 : PC Try.prog T 11 [] (ret1 (.st (vB true))) [] := by
  refine pc_of tok Try.func11 rfl (by rfl) ?_
  obtain ⟨j, hj⟩ : ∃ j : J, j = std Try.prog T := ⟨_, rfl⟩
  have hm : Try.prog.follows .mixedOrders = true := by kernel_rfl
  generalize y_rlsOf : @rlsOf = x_rlsOf at *
  generalize y_strsOf : @strsOf = x_strsOf at *
  generalize y_checkG : @checkG = x_checkG at *
  (repeat' first | ((first | with_reducible refine tr_cut (fun h => ?_) (fun h => ?_) | refine aw_condj (by cbv) (fun h => ?_) (fun h => ?_)) <;> (try simp (disch := omega) only [hj, std, cmpI, cmpB, satB, Bool.not_eq_true, Bool.not_eq_false, decide_eq_true_eq, decide_eq_false_iff_not, beq_iff_eq, bne_iff_ne, bne_eq_false_iff_eq, beq_eq_false_iff_ne, ne_eq, reduceCtorEq, not_true_eq_false, not_false_eq_true, pl0, if_true, cmpS_eq, cmpS_neq, Bool.not_eq_eq_eq_not, Bool.not_true, Bool.not_false, Bool.not_eq_true', add64, sub64] at h) <;> (try (exfalso; omega))) | (with_reducible refine tr_alt (fun h => ?_) ?_ <;> (try (exfalso; omega))) | (with_reducible refine tr_ob ?_ ?_) | (with_reducible refine tr_done ?_) | (refine aw_tr hj tok (bookAw x_rlsOf x_strsOf x_checkG) (by cbv) ?_) | (refine aw_seq fun K hK => ?_) | (refine aw_tr1 hj tok (bookAw x_rlsOf x_strsOf x_checkG) (by cbv) ?_) | (refine aw_skip ?_) | (refine aw_block ?_) | (refine aw_exit ?_) | (refine aw_ret ⟨.inr rfl, ret_okj hj (by cbv) ?_ ?_⟩) | (refine aw_ret ?_) | (with_reducible refine th_n ?_) | (with_reducible refine th_r ?_) | (with_reducible refine th_x ?_) | (with_reducible refine blk_n ?_) | (with_reducible refine blk_r ?_) | (with_reducible refine blk_x ?_) | (with_reducible refine blk_y rfl ?_) | (refine ⟨.inr rfl, ret_okj hj (by cbv) ?_ ?_⟩) | (refine ⟨.inl rfl, ret_okj hj (by cbv) ?_ ?_⟩) | ((with_reducible refine ⟨(_, _, _, _, _, _, _), by cbv, ?_, ?_⟩)) | ((with_reducible refine ⟨(_, _, _, _, _, _), by cbv, ?_, ?_⟩)) | ((with_reducible refine ⟨(_, _, _, _, _), by cbv, ?_, ?_⟩)) | ((with_reducible refine ⟨(_, _, _, _), by cbv, ?_, ?_⟩)) | ((with_reducible refine ⟨(_, _, _), by cbv, ?_, ?_⟩)) | ((with_reducible refine ⟨(_, _), by cbv, ?_, ?_⟩)) | ((with_reducible refine ⟨_, by cbv, ?_, ?_⟩)) | (with_reducible apply_assumption -symm -exfalso only [*]))
  all_goals ((try subst y_rlsOf); (try subst y_strsOf); (try subst y_checkG))
  all_goals (try (repeat' first | with_reducible exact obl0 | with_reducible refine obl1 ?_ ?_))
  all_goals (try first | with_reducible exact True.intro | (refine ob_pc hj ?_; (try rw [hj]); first | exact c_Check (ns := [b1 83, b1 65]) (ts := [b1 97]) (rs := aR) (sml_lit (by kernel_rfl)) | exact c_Check (ns := [b1 83, b1 66]) (ts := [b1 97, b1 98]) (rs := bR) (sml_lit (by kernel_rfl)) | exact c_Check (ns := [b1 83]) (ts := [b1 97]) (rs := cR) (sml_lit (by kernel_rfl))) | (refine ob_pcn hj ?_; (try rw [hj]); first | exact c_Check (ns := [b1 83, b1 65]) (ts := [b1 97]) (rs := aR) (sml_lit (by kernel_rfl)) | exact c_Check (ns := [b1 83, b1 66]) (ts := [b1 97, b1 98]) (rs := bR) (sml_lit (by kernel_rfl)) | exact c_Check (ns := [b1 83]) (ts := [b1 97]) (rs := cR) (sml_lit (by kernel_rfl))) | ((first | refine ob_le hj ?_ | refine ob_lei hj ?_ | refine ob_inb hj ?_ | refine ob_pos hj ?_ | refine ob_ne0 hj ?_ | refine ob_eqb hj ?_); (first | rfl | first | omega | (simp only [hj, std]; split <;> omega) | (simp (disch := omega) only [hj, std, cmpI, cmpB, satB, add64, sub64, ite0, pl0, pl2, pl3, sb0, if_true, if_false, eq_self] <;> omega) | (simp (disch := omega) [hj, std, cmpI, cmpB, satB, add64, sub64, ite0, pl0, pl2, pl3, sb0, if_true, if_false, eq_self] <;> omega))) | (exact rfl) | ((exact absurd ckA (by assumption))) | ((exact absurd ckB (by assumption))) | ((exact absurd ckC (by assumption))) | ((refine r1b ?_; rw [hj]; exact (decide_eq_true ckC).symm)))
def sameBl (a b : List Bool) : Bool := decide (a = b)
theorem sameBl_no {a b : List Bool} (h : ¬ nB a = nB b) : sameBl a b = false := decide_eq_false fun e => h (by rw [e])
theorem sameBl_no2 {a b : List Bool} {i : Nat} (h : ¬ bAt a i = bAt b i) : sameBl a b = false := decide_eq_false fun e => h (by rw [e])
theorem sameBl_yes {a b : List Bool} (h : nB a = nB b) (h2 : ∀ n : Nat, n < nB a → bAt a n = bAt b n) : sameBl a b = true := by
  rw [nB_eq, nB_eq] at h
  refine decide_eq_true (List.ext_getElem h fun i ha hb => ?_)
  have := h2 i (by rw [nB_eq]; exact ha)
  rwa [bAt, bAt, List.getD_eq_getElem?_getD, List.getD_eq_getElem?_getD, List.getElem?_eq_getElem ha, List.getElem?_eq_getElem hb] at this
theorem sml_few {ns ts : List ByteArray} {rs : List Rl} (h : ¬ fewG ns ts rs = 0) : Sml ns ts rs := by
  obtain ⟨h1, h2, h3, h4, h5, h6⟩ := fewG_yes h
  exact ⟨by omega, by omega, by omega, fun r hr => by have := h4 r hr; omega, fun s hs => by have := h5 s hs; omega, fun s hs => by have := h6 s hs; omega⟩
end Go.Proofs.Ytdmdcmhgfgookaa.A

/- WellChecks. -/
set_option linter.unusedSimpArgs false
set_option linter.unusedVariables false
set_option maxRecDepth 100000
set_option maxHeartbeats 4000000
namespace Go.Proofs.Ytdmdcmhgfgookaa.A
open Go
theorem sameBl_refl (a : List Bool) : sameBl a a = true := decide_eq_true rfl
theorem c_Few {ns ts : List ByteArray} {rs : List Rl} (h1 : nS ns < 4611686018427387904) (h2 : nS ts < 4611686018427387904) (h3 : nR rs < 2305843009213693952) (h4 : ∀ r ∈ rs, nI r.2 < 4611686018427387904) (h5 : ∀ s ∈ ns, s.size < 4611686018427387904) (h6 : ∀ s ∈ ts, s.size < 4611686018427387904) : pc 10 [.v true [(C.sl (nS ns) (sC ns)), (C.sl (nS ts) (sC ts)), (C.sl (nR rs) (rC rs))]] (ret1 (.st (vI (fewG (strsOf (sC ns)) (strsOf (sC ts)) (rlsOf (rC rs)))))) := by
  rw [strsOf_sC, strsOf_sC, rlsOf_rC]
  exact ⟨enters Try.func10 (by kernel_rfl) (by kernel_rfl), pc_Few ns ts rs h1 h2 h3 h4 h5 h6⟩
theorem c_awake15 : pc 11 [] (ret1 (.st (vB true))) := ⟨enters Try.func11 (by kernel_rfl) (by kernel_rfl), pc_awake15⟩
end Go.Proofs.Ytdmdcmhgfgookaa.A

/- Readings of structs whose fields take one cell each. No program in sight. -/
set_option linter.unusedSimpArgs false
set_option linter.unusedVariables false
set_option maxRecDepth 100000
set_option maxHeartbeats 4000000
namespace Go.Proofs.Ytdmdcmhgfgookaa
open Go.RowKit Go.ChangeShapes Go.WideShapes Go.ChangeAt

def RRec2 {α β : Type} (A : Rd α) (B : Rd β) : Rd (α × β) := fun w cs x => ∃ c0 c1, cs = [c0, c1] ∧ A w [c0] x.1 ∧ B w [c1] x.2
def RRec3 {α β γ : Type} (A : Rd α) (B : Rd β) (C : Rd γ) : Rd (α × β × γ) := fun w cs x => ∃ c0 c1 c2, cs = [c0, c1, c2] ∧ A w [c0] x.1 ∧ B w [c1] x.2.1 ∧ C w [c2] x.2.2
def RRec4 {α β γ δ : Type} (A : Rd α) (B : Rd β) (C : Rd γ) (D : Rd δ) : Rd (α × β × γ × δ) := fun w cs x => ∃ c0 c1 c2 c3, cs = [c0, c1, c2, c3] ∧ A w [c0] x.1 ∧ B w [c1] x.2.1 ∧ C w [c2] x.2.2.1 ∧ D w [c3] x.2.2.2
theorem stays_rec2 {α β : Type} {A : Rd α} {B : Rd β} (ha : Stays A) (hb : Stays B) : Stays (RRec2 A B) := by
  rintro w w' cs x ⟨c0, c1, rfl, h0, h1⟩ hbel
  exact ⟨c0, c1, rfl, ha _ _ _ _ h0 hbel, hb _ _ _ _ h1 hbel⟩
theorem stays_rec3 {α β γ : Type} {A : Rd α} {B : Rd β} {C : Rd γ} (ha : Stays A) (hb : Stays B) (hc : Stays C) : Stays (RRec3 A B C) := by
  rintro w w' cs x ⟨c0, c1, c2, rfl, h0, h1, h2⟩ hbel
  exact ⟨c0, c1, c2, rfl, ha _ _ _ _ h0 hbel, hb _ _ _ _ h1 hbel, hc _ _ _ _ h2 hbel⟩
theorem stays_rec4 {α β γ δ : Type} {A : Rd α} {B : Rd β} {C : Rd γ} {D : Rd δ} (ha : Stays A) (hb : Stays B) (hc : Stays C) (hd : Stays D) : Stays (RRec4 A B C D) := by
  rintro w w' cs x ⟨c0, c1, c2, c3, rfl, h0, h1, h2, h3⟩ hbel
  exact ⟨c0, c1, c2, c3, rfl, ha _ _ _ _ h0 hbel, hb _ _ _ _ h1 hbel, hc _ _ _ _ h2 hbel, hd _ _ _ _ h3 hbel⟩

section
variable {H : Type} {enc : TypeId × Value → H} {P : Program} {w : World}
theorem lk_fld {α : Type} {A : Rd α} {t : TypeId} {fs : Array Field} (ht : P.underlying t = some (.struct fs)) (i : Nat) (f : Field) (hf : fs[i]? = some f) (hA : Lk enc P w f.type A) :
    ∀ (fuel : Nat) (cs : List Value) (x : DataW H × List MemPlace), DataW.trod enc P w 0 (fun _ => true) true fuel t cs = some x → (x.1.weights P t).all (· ≤ reachBytes) = true → ∃ a, A w ((cs.drop f.offset).take (P.cellsOf f.type)) a := by
  intro fuel cs x h hz
  obtain ⟨xs, n, rfl, rfl, hl, hxs, hall⟩ := DataW.trod_struct ht h
  have h1 := hall i f hf
  have hi : i < xs.length := by rw [hxs]; exact (Array.getElem?_eq_some_iff.1 hf).1
  rw [List.getElem?_eq_getElem hi] at h1
  refine hA _ _ _ h1 (List.all_eq_true.2 fun m hm => List.all_eq_true.1 hz m ?_)
  simp only [DataW.weights, ht]
  exact DataW.weights_mem_each (ts := fs.toList.map (·.type)) (j := i) (t := f.type) (d := xs[i].1) (ds := xs.map (·.1)) (by simp [hf]) (by rw [List.getElem?_map, List.getElem?_eq_getElem hi]; rfl) m hm
theorem lk_len {t : TypeId} {fs : Array Field} (ht : P.underlying t = some (.struct fs)) {fuel : Nat} {cs : List Value} {x : DataW H × List MemPlace} (h : DataW.trod enc P w 0 (fun _ => true) true fuel t cs = some x) : cs.length = P.cellsOf t := by
  obtain ⟨xs, n, rfl, rfl, hl, hxs, hall⟩ := DataW.trod_struct ht h
  exact hl
theorem lk_rec2 {α β : Type} {A : Rd α} {B : Rd β} {t : TypeId} {f0 f1 : Field} (ht : P.underlying t = some (.struct #[f0, f1])) (ho : (f0.offset, f1.offset, P.cellsOf f0.type, P.cellsOf f1.type, P.cellsOf t) = (0, 1, 1, 1, 2))
    (ha : Lk enc P w f0.type A) (hb : Lk enc P w f1.type B) : Lk enc P w t (RRec2 A B) := by
  intro fuel cs x h hz
  simp only [Prod.mk.injEq] at ho
  obtain ⟨o0, o1, k0, k1, k⟩ := ho
  have hl := lk_len ht h
  rw [k] at hl
  match cs, hl with
  | [c0, c1], _ =>
    obtain ⟨a, h0⟩ := lk_fld ht 0 f0 rfl ha _ _ _ h hz
    obtain ⟨b, h1⟩ := lk_fld ht 1 f1 rfl hb _ _ _ h hz
    rw [o0, k0] at h0; rw [o1, k1] at h1
    exact ⟨(a, b), c0, c1, rfl, h0, h1⟩
theorem lk_rec3 {α β γ : Type} {A : Rd α} {B : Rd β} {C : Rd γ} {t : TypeId} {f0 f1 f2 : Field} (ht : P.underlying t = some (.struct #[f0, f1, f2])) (ho : (f0.offset, f1.offset, f2.offset, P.cellsOf f0.type, P.cellsOf f1.type, P.cellsOf f2.type, P.cellsOf t) = (0, 1, 2, 1, 1, 1, 3))
    (ha : Lk enc P w f0.type A) (hb : Lk enc P w f1.type B) (hc : Lk enc P w f2.type C) : Lk enc P w t (RRec3 A B C) := by
  intro fuel cs x h hz
  simp only [Prod.mk.injEq] at ho
  obtain ⟨o0, o1, o2, k0, k1, k2, k⟩ := ho
  have hl := lk_len ht h
  rw [k] at hl
  match cs, hl with
  | [c0, c1, c2], _ =>
    obtain ⟨a, h0⟩ := lk_fld ht 0 f0 rfl ha _ _ _ h hz
    obtain ⟨b, h1⟩ := lk_fld ht 1 f1 rfl hb _ _ _ h hz
    obtain ⟨c, h2⟩ := lk_fld ht 2 f2 rfl hc _ _ _ h hz
    rw [o0, k0] at h0; rw [o1, k1] at h1; rw [o2, k2] at h2
    exact ⟨(a, b, c), c0, c1, c2, rfl, h0, h1, h2⟩
theorem lk_rec4 {α β γ δ : Type} {A : Rd α} {B : Rd β} {C : Rd γ} {D : Rd δ} {t : TypeId} {f0 f1 f2 f3 : Field} (ht : P.underlying t = some (.struct #[f0, f1, f2, f3])) (ho : (f0.offset, f1.offset, f2.offset, f3.offset, P.cellsOf f0.type, P.cellsOf f1.type, P.cellsOf f2.type, P.cellsOf f3.type, P.cellsOf t) = (0, 1, 2, 3, 1, 1, 1, 1, 4))
    (ha : Lk enc P w f0.type A) (hb : Lk enc P w f1.type B) (hc : Lk enc P w f2.type C) (hd : Lk enc P w f3.type D) : Lk enc P w t (RRec4 A B C D) := by
  intro fuel cs x h hz
  simp only [Prod.mk.injEq] at ho
  obtain ⟨o0, o1, o2, o3, k0, k1, k2, k3, k⟩ := ho
  have hl := lk_len ht h
  rw [k] at hl
  match cs, hl with
  | [c0, c1, c2, c3], _ =>
    obtain ⟨a, h0⟩ := lk_fld ht 0 f0 rfl ha _ _ _ h hz
    obtain ⟨b, h1⟩ := lk_fld ht 1 f1 rfl hb _ _ _ h hz
    obtain ⟨c, h2⟩ := lk_fld ht 2 f2 rfl hc _ _ _ h hz
    obtain ⟨d, h3⟩ := lk_fld ht 3 f3 rfl hd _ _ _ h hz
    rw [o0, k0] at h0; rw [o1, k1] at h1; rw [o2, k2] at h2; rw [o3, k3] at h3
    exact ⟨(a, b, c, d), c0, c1, c2, c3, rfl, h0, h1, h2, h3⟩
end
end Go.Proofs.Ytdmdcmhgfgookaa

/- The ghost machine: structs that came in, as cells. -/
set_option linter.unusedSimpArgs false
set_option linter.unusedVariables false
set_option maxRecDepth 100000
set_option maxHeartbeats 4000000
namespace Go.Proofs.Ytdmdcmhgfgookaa.A
open Go
theorem rdc_rec2 {α β : Type} {A : Rd α} {B : Rd β} {f : α → List C} {g : β → List C} (ha : RdC A f) (hb : RdC B g) : RdC (RRec2 A B) fun x => f x.1 ++ g x.2 := by
  rintro w cs x ⟨c0, c1, rfl, h1, h2⟩
  exact rdc_pair (s1 := 1) (s2 := 1) ha hb w _ x ⟨[c0], [c1], rfl, rfl, rfl, h1, h2⟩
theorem rdc_rec3 {α β γ : Type} {A : Rd α} {B : Rd β} {D : Rd γ} {f : α → List C} {g : β → List C} {h : γ → List C} (ha : RdC A f) (hb : RdC B g) (hd : RdC D h) : RdC (RRec3 A B D) fun x => f x.1 ++ (g x.2.1 ++ h x.2.2) := by
  rintro w cs x ⟨c0, c1, c2, rfl, h1, h2, h3⟩
  exact rdc_pair (s1 := 1) (s2 := 2) ha (rdc_pair (s1 := 1) (s2 := 1) hb hd) w _ x ⟨[c0], [c1, c2], rfl, rfl, rfl, h1, ⟨[c1], [c2], rfl, rfl, rfl, h2, h3⟩⟩
theorem rdc_rec4 {α β γ δ : Type} {A : Rd α} {B : Rd β} {D : Rd γ} {E : Rd δ} {f : α → List C} {g : β → List C} {h : γ → List C} {k : δ → List C} (ha : RdC A f) (hb : RdC B g) (hd : RdC D h) (he : RdC E k) :
    RdC (RRec4 A B D E) fun x => f x.1 ++ (g x.2.1 ++ (h x.2.2.1 ++ k x.2.2.2)) := by
  rintro w cs x ⟨c0, c1, c2, c3, rfl, h1, h2, h3, h4⟩
  exact rdc_pair (s1 := 1) (s2 := 3) ha (rdc_pair (s1 := 1) (s2 := 2) hb (rdc_pair (s1 := 1) (s2 := 1) hd he)) w _ x ⟨[c0], [c1, c2, c3], rfl, rfl, rfl, h1, ⟨[c1], [c2, c3], rfl, rfl, rfl, h2, ⟨[c2], [c3], rfl, rfl, rfl, h3, h4⟩⟩⟩
end Go.Proofs.Ytdmdcmhgfgookaa.A

/- A grammar that came in, as cells. -/
set_option linter.unusedSimpArgs false
set_option linter.unusedVariables false
set_option maxRecDepth 100000
set_option maxHeartbeats 4000000
namespace Go.Proofs.Ytdmdcmhgfgookaa.A
open Go
abbrev RStrs : Rd (List ByteArray) := RSl 1 16 RStr
abbrev RInts : Rd (List Int) := RSl 1 8 RInt
abbrev RRule : Rd (Int × List Int) := RRec2 RInt RInts
abbrev RGram : Rd (List ByteArray × List ByteArray × List (Int × List Int)) := RRec3 RStrs RStrs (RSl 2 32 RRule)
theorem sl_mem {α : Type} {sz by_ : Nat} {R : Rd α} {w : World} {cs : List Value} {xs : List α} (h : RSl sz by_ R w cs xs) : ∀ x ∈ xs, ∃ cs', R w cs' x := by
  obtain ⟨a, cap, _, hs, _⟩ := h
  intro x hx
  obtain ⟨i, hi, rfl⟩ := List.mem_iff_getElem.1 hx
  obtain ⟨b, off, _, _, hc⟩ := hs (by omega)
  obtain ⟨cs', _, _, h3⟩ := hc i hi
  exact ⟨cs', h3⟩
theorem sl_bound {α : Type} {sz by_ : Nat} {R : Rd α} {w : World} {cs : List Value} {xs : List α} (h : RSl sz by_ R w cs xs) : xs.length * by_ ≤ 140737488351232 := by
  obtain ⟨a, cap, _, _, hle, hcap, _⟩ := h
  exact Nat.le_trans (Nat.mul_le_mul_right _ hle) hcap
theorem rC_flat (l : List Rl) : l.flatMap (fun r => [vI r.1] ++ [.sl r.2.length (r.2.flatMap fun n => [vI n])]) = rC l := by
  unfold rC
  congr 1
  funext r
  rw [iC_flat, ← nI_eq]; rfl
theorem rdc_to {α : Type} {R : Rd α} {f g : α → List C} (h : RdC R f) (e : ∀ x, f x = g x) : RdC R g := by rw [← show f = g from funext e]; exact h
theorem rdc_strs : RdC RStrs fun l => [(C.sl (nS l) (sC l))] := rdc_to (rdc_sl rdc_str (fun _ => rfl)) fun l => by show [C.sl l.length _] = _; rw [sC_flat, ← nS_eq]
theorem rdc_rules : RdC (RSl 2 32 RRule) fun l => [(C.sl (nR l) (rC l))] :=
  rdc_to (rdc_sl (f := fun r : Rl => [vI r.1] ++ [.sl r.2.length (r.2.flatMap fun n => [vI n])]) (rdc_rec2 rdc_int (rdc_sl rdc_int (fun _ => rfl))) (fun _ => rfl)) fun l => by show [C.sl l.length _] = _; rw [rC_flat, ← nR_eq]
theorem rdc_gram : RdC RGram fun x => [(C.sl (nS x.1) (sC x.1)), (C.sl (nS x.2.1) (sC x.2.1)), (C.sl (nR x.2.2) (rC x.2.2))] := rdc_rec3 rdc_strs rdc_strs rdc_rules
structure GrB (ns ts : List ByteArray) (rs : List Rl) : Prop where
  n : nS ns < 4611686018427387904
  t : nS ts < 4611686018427387904
  r : nR rs < 2305843009213693952
  i : ∀ r ∈ rs, nI r.2 < 4611686018427387904
  s : ∀ s ∈ ns, s.size < 4611686018427387904
  u : ∀ s ∈ ts, s.size < 4611686018427387904
theorem gram_b {w : World} {cs : List Value} {x : List ByteArray × List ByteArray × List (Int × List Int)} (h : RGram w cs x) : GrB x.1 x.2.1 x.2.2 := by
  obtain ⟨c0, c1, c2, rfl, h0, h1, h2⟩ := h
  have b0 := sl_bound h0; have b1 := sl_bound h1; have b2 := sl_bound h2
  refine ⟨by rw [nS_eq]; omega, by rw [nS_eq]; omega, by rw [nR_eq]; omega, fun r hr => ?_, fun s hs => ?_, fun s hs => ?_⟩
  · obtain ⟨cs', d0, d1, _, _, h3⟩ := sl_mem h2 r hr
    have := sl_bound h3
    rw [nI_eq]; omega
  · obtain ⟨cs', _, h3⟩ := sl_mem h0 s hs; omega
  · obtain ⟨cs', _, h3⟩ := sl_mem h1 s hs; omega
theorem gram_arg {w : World} {a : Array Value} {x : List ByteArray × List ByteArray × List (Int × List Int)} {bx : Nat → Nat} {b : Nat} (h : RGram w (Value.agg a).cells.toList x) : ArgRep w (fun b => b < w.heap.size) bx b (.agg a) (.v true [(C.sl (nS x.1) (sC x.1)), (C.sl (nS x.2.1) (sC x.2.1)), (C.sl (nR x.2.2) (rC x.2.2))]) := by
  obtain ⟨h1, h2⟩ := rdc_gram w _ x h
  have e : (Value.agg a).cells.toList = a.toList := rfl
  rw [e] at h1 h2
  refine ⟨a, rfl, by simpa using h1, fun k hk hk2 => ?_⟩
  have := h2 k (by simpa using hk2) hk
  rwa [Array.getElem_toList] at this
end Go.Proofs.Ytdmdcmhgfgookaa.A
