/- What the laws of this seat need, part 5. -/
import Derived.Test.YtgimfjmigoibgaaMz4
/- Grammars: texts of which no two are alike; a nonterminal's rules. -/
set_option linter.unusedSimpArgs false
set_option linter.unusedVariables false
set_option maxRecDepth 100000
set_option maxHeartbeats 4000000
namespace Go.Proofs.Ytgimfjmigoibgaa.A
open Go
def Cnt (m : GM) (l : List ByteArray) (b : Int) : Prop := ∀ w : ByteArray, ∃ c : Int, mgetS m w (vI 0) = vI c ∧ 0 ≤ c ∧ c ≤ b ∧ (c = 0 ↔ w ∉ l)
theorem cnt_new : Cnt GM.new [] 0 := fun w => ⟨0, mget_new w _, by omega, by omega, by simp⟩
theorem cnt_bump {m : GM} {l : List ByteArray} {b : Int} (h : Cnt m l b) (w : ByteArray) {c : Int} (hc : c = gi (mgetC m.ks m.vs (.string w) (vI 0)) + 1) : Cnt (m.set (.string w) (vI c)) (l ++ [w]) (b + 1) := by
 intro x
 rw [mget_set]
 by_cases e : w = x
 ·subst e
  rw [if_pos rfl]
  obtain ⟨c', h1, h2, h3, h4⟩ := h w
  have h5 : gi (mgetC m.ks m.vs (.string w) (vI 0)) = c' := by
   have : mgetC m.ks m.vs (.string w) (vI 0) = vI c' := h1
   rw [this]; rfl
  refine ⟨_, rfl, by omega, by omega, ?_⟩
  exact ⟨fun hh => by omega, fun hh => absurd (by simp) hh⟩
 ·rw [if_neg e]
  obtain ⟨c', h1, h2, h3, h4⟩ := h x
  refine ⟨c', h1, h2, by omega, ?_⟩
  rw [h4]
  simp only [List.mem_append, List.mem_singleton, not_or]
  exact ⟨fun k => ⟨k, fun e2 => e e2.symm⟩, fun k => k.1⟩
def dstS (p : ByteArray → Bool) (l : List ByteArray) : Bool := decide ((∀ s ∈ l, p s = true) ∧ l.Nodup)
theorem dst_no1 {p : ByteArray → Bool} {l : List ByteArray} (i : Int) (h0 : 0 ≤ i) (hi : i < nS l) (h : p (sAt l i.toNat) = false) : dstS p l = false :=
 decide_eq_false fun hh => by rw [hh.1 _ (sAt_mem l i h0 hi)] at h; cases h
theorem sAt_get {l : List ByteArray} {n : Nat} (h : n < l.length) : sAt l n = l[n] := by rw [sAt, List.getD_eq_getElem?_getD, List.getElem?_eq_getElem h]; rfl
theorem take_sAt (l : List ByteArray) (i : Int) (h0 : 0 ≤ i) (h : i < nS l) : l.take (i + 1).toNat = l.take i.toNat ++ [sAt l i.toNat] := take_step l i h0 h
theorem dst_no2 {p : ByteArray → Bool} {l : List ByteArray} (i : Int) (h0 : 0 ≤ i) (hi : i < nS l) (h : sAt l i.toNat ∈ l.take i.toNat) : dstS p l = false :=
 decide_eq_false fun hh => by
  have h2 := hh.2.sublist (List.take_sublist (i + 1).toNat l)
  rw [take_sAt l i h0 hi, List.nodup_append] at h2
  exact h2.2.2 _ h _ (by simp) rfl
theorem dst_yes {p : ByteArray → Bool} {l : List ByteArray} (h1 : ∀ n : Nat, n < nS l → p (sAt l n) = true) (h2 : (l.take l.length).Nodup) : dstS p l = true := by
 rw [List.take_length] at h2
 exact decide_eq_true ⟨fun s hs => by obtain ⟨n, hn, rfl⟩ := mem_sAt hs; exact h1 n hn, h2⟩
theorem dst_iff {p : ByteArray → Bool} {l : List ByteArray} : dstS p l = true ↔ (∀ s ∈ l, p s = true) ∧ l.Nodup := by unfold dstS; rw [decide_eq_true_eq]
def bookGd (p : ByteArray → Bool) : Book := fun _ xs => match xs with | [.v false [.val (.string s)]] => some (ret1 (.st (vB (p s)))) | _ => none
theorem pc_distinct (l : List ByteArray) (f : FuncId) (p : ByteArray → Bool) (hl : nS l ≤ 1000000) (hp : ∀ s ∈ l, pc f [.v false [vS s]] (ret1 (.st (vB (p s))))) :
  PC Try.prog T 32 [.v false [(C.sl (nS l) (sC l))], .fn f] (ret1 (.st (vB (dstS p l)))) [] := by
 refine pc_of tok Try.func32 rfl (by rfl) ?_
 obtain ⟨j, hj⟩ : ∃ j : J, j = std Try.prog T := ⟨_, rfl⟩
 have hm : Try.prog.follows .mixedOrders = true := by kernel_rfl
 have nl := nS_eq l
 generalize y_dstS : @dstS = x_dstS at *
 generalize y_sC : @sC = x_sC at *
 generalize y_nS : @nS = x_nS at *
 (repeat' first | ((first | with_reducible refine tr_cut (fun h => ?_) (fun h => ?_) | refine aw_condj (by cbv) (fun h => ?_) (fun h => ?_)) <;> (try simp (disch := omega) only [hj, std, cmpI, cmpB, satB, Bool.not_eq_true, Bool.not_eq_false, decide_eq_true_eq, decide_eq_false_iff_not, beq_iff_eq, bne_iff_ne, bne_eq_false_iff_eq, beq_eq_false_iff_ne, ne_eq, reduceCtorEq, not_true_eq_false, not_false_eq_true, pl0, if_true, cmpS_eq, cmpS_neq, Bool.not_eq_eq_eq_not, Bool.not_true, Bool.not_false, Bool.not_eq_true', add64, sub64] at h) <;> (try (exfalso; omega))) | (with_reducible refine tr_alt (fun h => ?_) ?_ <;> (try (exfalso; omega))) | (with_reducible first | refine tr_ob ?_ ?_ | refine tr_done ?_) | (refine aw_tr hj tok (bookGd p) (by cbv) ?_) | (refine aw_seq fun K hK => ?_) | (refine aw_tr1 hj tok (bookGd p) (by cbv) ?_) | (refine aw_skip ?_) | (refine aw_block ?_) | (refine aw_exit ?_) | (refine aw_ret ⟨.inr rfl, ret_okj hj (by cbv) ?_ ?_⟩) | (refine aw_ret ?_) | (with_reducible first | refine th_n ?_ | refine th_r ?_ | refine th_x ?_ | refine blk_n ?_ | refine blk_r ?_ | refine blk_x ?_ | refine blk_y rfl ?_) | (refine ⟨.inr rfl, ret_okj hj (by cbv) ?_ ?_⟩) | (refine ⟨.inl rfl, ret_okj hj (by cbv) ?_ ?_⟩) | (with_reducible first | refine ⟨(_, _), by cbv, ?_, ?_⟩ | refine ⟨_, by cbv, ?_, ?_⟩) | (with_reducible apply_assumption -symm -exfalso only [*]))
 all_goals ((try subst y_dstS); (try subst y_sC); (try subst y_nS))
 refine aw_lpj hj [(1, .keep), (5, .map), (9, .keep), (10, .keep), (11, .keep)] [] (fun (⟨i, m⟩ : Int × GM) => stOf 30 [(1, .one (.fn f [])), (5, .one (.mv 5 0)), (9, .one (.c ((C.sl (nS l) (sC l))))), (10, .one (.c (vI (j.ofNat (nS l))))), (11, .one (.c (vI i)))] [(5, .loose [.map .str m])]) (fun (⟨i, m⟩ : Int × GM) => nS l - i.toNat) (fun (⟨i, m⟩ : Int × GM) => 0 ≤ i ∧ i ≤ nS l ∧ Cnt m (l.take i.toNat) i ∧ (∀ n : Nat, (n : Int) < i → p (sAt l n) = true) ∧ (l.take i.toNat).Nodup) ((0, j.mnew)) (by generalize @dstS = x_dstS; generalize @sC = x_sC; generalize @nS = x_nS; cbv) ?_ (fun ⟨i, m⟩ hI => ?_)
 ·refine ⟨by omega, by omega, ?_, fun n h => by omega, List.nodup_nil⟩
  rw [hj]; exact cnt_new
 obtain ⟨i1, i2, i3, i4, i5⟩ := hI
 have i3' := i3
 obtain ⟨c, c1, c2, c3, c4⟩ := i3 (gs (cellAt (sC l) i.toNat))
 have c1' : mgetC m.ks m.vs (.string (gs (cellAt (sC l) i.toNat))) (vI 0) = vI c := c1
 have c5 : gi (mgetC m.ks m.vs (.string (gs (cellAt (sC l) i.toNat))) (vI 0)) = c := by rw [c1']; rfl
 rw [gs_sC] at c4
 have hpi : i < nS l → pc f [.v false [vS (gs (cellAt (sC l) i.toNat))]] (ret1 (.st (vB (p (gs (cellAt (sC l) i.toNat)))))) := fun h => by rw [gs_sC]; exact hp _ (sAt_mem l i i1 h)
 generalize y_dstS : @dstS = x_dstS at *
 generalize y_sC : @sC = x_sC at *
 generalize y_nS : @nS = x_nS at *
 (repeat' first | ((first | with_reducible refine tr_cut (fun h => ?_) (fun h => ?_) | refine aw_condj (by cbv) (fun h => ?_) (fun h => ?_)) <;> (try simp (disch := omega) only [hj, std, cmpI, cmpB, satB, Bool.not_eq_true, Bool.not_eq_false, decide_eq_true_eq, decide_eq_false_iff_not, beq_iff_eq, bne_iff_ne, bne_eq_false_iff_eq, beq_eq_false_iff_ne, ne_eq, reduceCtorEq, not_true_eq_false, not_false_eq_true, pl0, if_true, cmpS_eq, cmpS_neq, Bool.not_eq_eq_eq_not, Bool.not_true, Bool.not_false, Bool.not_eq_true', add64, sub64] at h) <;> (try (exfalso; omega))) | (with_reducible refine tr_alt (fun h => ?_) ?_ <;> (try (exfalso; omega))) | (with_reducible first | refine tr_ob ?_ ?_ | refine tr_done ?_) | (refine aw_tr hj tok (bookGd p) (by cbv) ?_) | (refine aw_seq fun K hK => ?_) | (refine aw_tr1 hj tok (bookGd p) (by cbv) ?_) | (refine aw_skip ?_) | (refine aw_block ?_) | (refine aw_exit ?_) | (refine aw_ret ⟨.inr rfl, ret_okj hj (by cbv) ?_ ?_⟩) | (refine aw_ret ?_) | (with_reducible first | refine th_n ?_ | refine th_r ?_ | refine th_x ?_ | refine blk_n ?_ | refine blk_r ?_ | refine blk_x ?_ | refine blk_y rfl ?_) | (refine ⟨.inr rfl, ret_okj hj (by cbv) ?_ ?_⟩) | (refine ⟨.inl rfl, ret_okj hj (by cbv) ?_ ?_⟩) | (with_reducible first | refine ⟨(_, _), by cbv, ?_, ?_⟩ | refine ⟨_, by cbv, ?_, ?_⟩) | (with_reducible apply_assumption -symm -exfalso only [*]))
 all_goals ((try subst y_dstS); (try subst y_sC); (try subst y_nS))
 all_goals (try have q := ‹p _ = false›)
 all_goals (try have q := ‹p _ = true›)
 all_goals (try rw [gs_sC] at q)
 all_goals (try have r := ‹gi (mgetC m.ks m.vs _ _) > 0›)
 all_goals (try have r := ‹¬ gi (mgetC m.ks m.vs _ _) > 0›)
 all_goals (try rw [c5] at r)
 all_goals (try have hin : sAt l i.toNat ∈ l.take i.toNat := (by by_cases hh : sAt l i.toNat ∈ l.take i.toNat; exact hh; exact absurd (c4.2 hh) (by omega)))
 all_goals (try have hout : sAt l i.toNat ∉ l.take i.toNat := c4.1 (by omega))
 all_goals (try (repeat' first | with_reducible exact obl0 | with_reducible refine obl1 ?_ ?_))
 all_goals (try first | with_reducible exact True.intro | ((first | refine ob_pc hj ?_ | refine ob_pcn hj ?_); (try rw [hj]); first | exact hpi (by omega)) | ((first | refine ob_le hj ?_ | refine ob_lei hj ?_ | refine ob_inb hj ?_ | refine ob_pos hj ?_ | refine ob_ne0 hj ?_ | refine ob_eqb hj ?_); (first | rfl | first | omega | (simp only [hj, std]; split <;> omega) | (simp (disch := omega) only [hj, std, cmpI, cmpB, satB, add64, sub64, ite0, pl0, pl2, pl3, sb0, if_true, if_false, eq_self, sC_len] <;> omega) | (simp (disch := omega) [hj, std, cmpI, cmpB, satB, add64, sub64, ite0, pl0, pl2, pl3, sb0, if_true, if_false, eq_self, sC_len] <;> omega))) | ((refine ob_ok hj ?_; simp only [hj, std, ite0]; first | exact ok_sC (by omega) | exact ⟨_, c1'⟩)) | ((refine r1b ?_; exact dst_no1 i i1 (by assumption) q)) | ((refine r1b ?_; exact dst_no2 i i1 (by assumption) hin)) | ((refine r1b ?_; refine dst_yes (fun n hn => i4 n (by omega)) ?_; have hi : i.toNat = l.length := (by omega); rw [← hi]; exact i5)))
 all_goals (have e9 : arithI .add .i64 i 1 = i + 1 := add64 (by omega) (by omega); have hlt : i < nS l := (by assumption); rw [hj])
 ·show 0 ≤ arithI .add .i64 i 1 ∧ arithI .add .i64 i 1 ≤ nS l ∧ Cnt (m.set (.string (gs (cellAt (sC l) i.toNat))) (vI (arithI .add .i64 (gi (mgetC m.ks m.vs (.string (gs (cellAt (sC l) i.toNat))) (vI 0))) 1))) (l.take (arithI .add .i64 i 1).toNat) (arithI .add .i64 i 1) ∧ (∀ n : Nat, (n : Int) < arithI .add .i64 i 1 → p (sAt l n) = true) ∧ (l.take (arithI .add .i64 i 1).toNat).Nodup
  have e8 : arithI .add .i64 c 1 = c + 1 := add64 (by omega) (by omega)
  rw [e9, c5, e8, take_sAt l i i1 hlt]
  refine ⟨by omega, by omega, ?_, fun n hn => ?_, ?_⟩
  ·have := cnt_bump i3' (gs (cellAt (sC l) i.toNat)) (c := c + 1) (by rw [c5])
   rw [gs_sC] at this ⊢; exact this
  ·by_cases e : (n : Int) < i
   ·exact i4 n e
   ·obtain rfl : n = i.toNat := by omega
    exact q
  ·rw [List.nodup_append]
   exact ⟨i5, by simp, fun a ha b hb e => by rw [List.mem_singleton.1 hb] at e; exact hout (e ▸ ha)⟩
 ·show nS l - (arithI .add .i64 i 1).toNat < nS l - i.toNat
  rw [e9]; omega
def ofGo (left : Int) : List Rl → Int → List Int
 | [], _ => []
 | r :: l, i => if r.1 = left then i :: ofGo left l (i + 1) else ofGo left l (i + 1)
def ofR (l : List Rl) (left : Int) : List Int := ofGo left l 0
theorem rdrop_step (l : List Rl) (i : Int) (h0 : 0 ≤ i) (h : i < nR l) : l.drop i.toNat = rAt l i.toNat :: l.drop (i + 1).toNat := by
 have hn := nR_eq l
 have e : (i + 1).toNat = i.toNat + 1 := by omega
 rw [e]; exact drop_cons _ (by omega)
theorem rdrop_fin (l : List Rl) (i : Int) (h : ¬ i < nR l) : l.drop i.toNat = [] := by
 have hn := nR_eq l
 exact List.drop_eq_nil_of_le (by omega)
theorem ofGo_nil {left : Int} : ∀ (l : List Rl) (i : Int), ofGo left l i = [] ↔ ∀ r ∈ l, r.1 ≠ left := by
 intro l
 induction l with
 | nil => intro i; simp [ofGo]
 | cons r l ih =>
  intro i
  unfold ofGo
  by_cases h : r.1 = left
  ·rw [if_pos h]; simp [h]
  ·rw [if_neg h, ih]; simp [h]
theorem pc_Of (ns ts : List ByteArray) (rs : List Rl) (left : Int) (h3 : nR rs ≤ 1000000) : PC Try.prog T 18 [.v true [(C.sl (nS ns) (sC ns)), (C.sl (nS ts) (sC ts)), (C.sl (nR rs) (rC rs))], .v false [vI left]] (ret1 (.own intT (nI (ofR rs left)) (iC (ofR rs left)))) [] := by
 refine pc_of tok Try.func18 rfl (by rfl) ?_
 obtain ⟨j, hj⟩ : ∃ j : J, j = std Try.prog T := ⟨_, rfl⟩
 have hm : Try.prog.follows .mixedOrders = true := by kernel_rfl
 have nr := nR_eq rs
 generalize y_rC : @rC = x_rC at *
 generalize y_nR : @nR = x_nR at *
 generalize y_ofR : @ofR = x_ofR at *
 generalize y_sC : @sC = x_sC at *
 generalize y_iC : @iC = x_iC at *
 generalize y_nS : @nS = x_nS at *
 generalize y_nI : @nI = x_nI at *
 (repeat' first | ((first | with_reducible refine tr_cut (fun h => ?_) (fun h => ?_) | refine aw_condj (by cbv) (fun h => ?_) (fun h => ?_)) <;> (try simp (disch := omega) only [hj, std, cmpI, cmpB, satB, Bool.not_eq_true, Bool.not_eq_false, decide_eq_true_eq, decide_eq_false_iff_not, beq_iff_eq, bne_iff_ne, bne_eq_false_iff_eq, beq_eq_false_iff_ne, ne_eq, reduceCtorEq, not_true_eq_false, not_false_eq_true, pl0, if_true, cmpS_eq, cmpS_neq, Bool.not_eq_eq_eq_not, Bool.not_true, Bool.not_false, Bool.not_eq_true', add64, sub64] at h) <;> (try (exfalso; omega))) | (with_reducible refine tr_alt (fun h => ?_) ?_ <;> (try (exfalso; omega))) | (with_reducible first | refine tr_ob ?_ ?_ | refine tr_done ?_) | (refine aw_tr hj tok book0 (by cbv) ?_) | (refine aw_seq fun K hK => ?_) | (refine aw_tr1 hj tok book0 (by cbv) ?_) | (refine aw_skip ?_) | (refine aw_block ?_) | (refine aw_exit ?_) | (refine aw_ret ⟨.inr rfl, ret_okj hj (by cbv) ?_ ?_⟩) | (refine aw_ret ?_) | (with_reducible first | refine th_n ?_ | refine th_r ?_ | refine th_x ?_ | refine blk_n ?_ | refine blk_r ?_ | refine blk_x ?_ | refine blk_y rfl ?_) | (refine ⟨.inr rfl, ret_okj hj (by cbv) ?_ ?_⟩) | (refine ⟨.inl rfl, ret_okj hj (by cbv) ?_ ?_⟩) | (with_reducible first | refine ⟨(_, _, _), by cbv, ?_, ?_⟩ | refine ⟨_, by cbv, ?_, ?_⟩) | (with_reducible apply_assumption -symm -exfalso only [*]))
 all_goals ((try subst y_rC); (try subst y_nR); (try subst y_ofR); (try subst y_sC); (try subst y_iC); (try subst y_nS); (try subst y_nI))
 refine aw_lpj hj [(1, .keep), (5, .own intT), (9, .keep), (10, .keep), (11, .keep)] [] (fun (⟨i, n, cs⟩ : Int × Nat × (List C)) => stOf 26 [(1, .one (.c (vI left))), (5, .one (.view 5 0)), (9, .one (.c ((C.sl (nR rs) (rC rs))))), (10, .one (.c (vI (j.ofNat (nR rs))))), (11, .one (.c (vI i)))] [(5, .loose [.own intT n cs])]) (fun (⟨i, n, cs⟩ : Int × Nat × (List C)) => nR rs - i.toNat) (fun (⟨i, n, cs⟩ : Int × Nat × (List C)) => 0 ≤ i ∧ i ≤ nR rs ∧ ∃ L : List Int, n = nI L ∧ cs = iC L ∧ L.length ≤ i ∧ L ++ ofGo left (rs.drop i.toNat) i = ofR rs left) ((0, 0, [])) (by generalize @rC = x_rC; generalize @nR = x_nR; generalize @ofR = x_ofR; generalize @sC = x_sC; generalize @iC = x_iC; generalize @nS = x_nS; generalize @nI = x_nI; cbv) ?_ (fun ⟨i, n, cs⟩ hI => ?_)
 ·exact ⟨by omega, by omega, [], rfl, rfl, by simp, rfl⟩
 obtain ⟨i1, i2, L, l1, l2, l3, l4⟩ := hI
 have l5 : i < nR rs → (rAt rs i.toNat).1 = left → L ++ [i] ++ ofGo left (rs.drop (i + 1).toNat) (i + 1) = ofR rs left := fun h q => by rw [← l4, rdrop_step rs i i1 h, ofGo, if_pos q]; simp
 have l6 : i < nR rs → ¬ (rAt rs i.toNat).1 = left → L ++ ofGo left (rs.drop (i + 1).toNat) (i + 1) = ofR rs left := fun h q => by rw [← l4, rdrop_step rs i i1 h, ofGo, if_neg q]
 have l7 : ¬ i < nR rs → L = ofR rs left := fun h => by rw [← l4, rdrop_fin rs i h]; simp [ofGo]
 clear l4
 generalize y_rC : @rC = x_rC at *
 generalize y_nR : @nR = x_nR at *
 generalize y_ofR : @ofR = x_ofR at *
 generalize y_sC : @sC = x_sC at *
 generalize y_iC : @iC = x_iC at *
 generalize y_nS : @nS = x_nS at *
 generalize y_nI : @nI = x_nI at *
 (repeat' first | ((first | with_reducible refine tr_cut (fun h => ?_) (fun h => ?_) | refine aw_condj (by cbv) (fun h => ?_) (fun h => ?_)) <;> (try simp (disch := omega) only [hj, std, cmpI, cmpB, satB, Bool.not_eq_true, Bool.not_eq_false, decide_eq_true_eq, decide_eq_false_iff_not, beq_iff_eq, bne_iff_ne, bne_eq_false_iff_eq, beq_eq_false_iff_ne, ne_eq, reduceCtorEq, not_true_eq_false, not_false_eq_true, pl0, if_true, cmpS_eq, cmpS_neq, Bool.not_eq_eq_eq_not, Bool.not_true, Bool.not_false, Bool.not_eq_true', add64, sub64] at h) <;> (try (exfalso; omega))) | (with_reducible refine tr_alt (fun h => ?_) ?_ <;> (try (exfalso; omega))) | (with_reducible first | refine tr_ob ?_ ?_ | refine tr_done ?_) | (refine aw_tr hj tok book0 (by cbv) ?_) | (refine aw_seq fun K hK => ?_) | (refine aw_tr1 hj tok book0 (by cbv) ?_) | (refine aw_skip ?_) | (refine aw_block ?_) | (refine aw_exit ?_) | (refine aw_ret ⟨.inr rfl, ret_okj hj (by cbv) ?_ ?_⟩) | (refine aw_ret ?_) | (with_reducible first | refine th_n ?_ | refine th_r ?_ | refine th_x ?_ | refine blk_n ?_ | refine blk_r ?_ | refine blk_x ?_ | refine blk_y rfl ?_) | (refine ⟨.inr rfl, ret_okj hj (by cbv) ?_ ?_⟩) | (refine ⟨.inl rfl, ret_okj hj (by cbv) ?_ ?_⟩) | (with_reducible first | refine ⟨(_, _, _), by cbv, ?_, ?_⟩ | refine ⟨_, by cbv, ?_, ?_⟩) | (with_reducible apply_assumption -symm -exfalso only [*]))
 all_goals ((try subst y_rC); (try subst y_nR); (try subst y_ofR); (try subst y_sC); (try subst y_iC); (try subst y_nS); (try subst y_nI))
 all_goals (try have q := ‹gi (cellAt (rC rs) _) = left›)
 all_goals (try have q := ‹¬ gi (cellAt (rC rs) _) = left›)
 all_goals (try rw [gi_rC] at q)
 all_goals (have nl := nI_eq L)
 all_goals (try (repeat' first | with_reducible exact obl0 | with_reducible refine obl1 ?_ ?_))
 all_goals (try first | with_reducible exact True.intro | ((first | refine ob_le hj ?_ | refine ob_lei hj ?_ | refine ob_inb hj ?_ | refine ob_pos hj ?_ | refine ob_ne0 hj ?_ | refine ob_eqb hj ?_); (first | rfl | first | omega | (simp only [hj, std]; split <;> omega) | (simp (disch := omega) only [hj, std, cmpI, cmpB, satB, add64, sub64, ite0, pl0, pl2, pl3, sb0, if_true, if_false, eq_self, rC_len] <;> omega) | (simp (disch := omega) [hj, std, cmpI, cmpB, satB, add64, sub64, ite0, pl0, pl2, pl3, sb0, if_true, if_false, eq_self, rC_len] <;> omega))) | ((refine ob_ok hj ?_; simp only [hj, std, ite0]; first | exact ok_rC1 (by omega) | exact ok_rC0 (by omega))) | ((refine ob_le hj ?_; simp only [hj, std, ite0]; omega)) | ((refine (ret1_c (own_eq ?_ ?_)).symm; rw [l1, l7 (by assumption)]; rw [l2, l7 (by assumption)])) | ((simp (disch := omega) only [hj, std, add64]; omega)) | ((simp (disch := omega) only [hj, std, add64, ite0]; exact ⟨by omega, by omega, L, l1, l2, by omega, l6 (by assumption) q⟩)) | ((simp (disch := omega) only [hj, std, add64, ite0]; exact ⟨by omega, by omega, L ++ [i], by rw [l1, nI_eq, nI_eq, List.length_append]; rfl, by rw [l2]; exact iC_snoc L i, by rw [List.length_append, List.length_singleton]; omega, l5 (by assumption) q⟩)))
end Go.Proofs.Ytgimfjmigoibgaa.A
/- Grammars: of two rules, are they alike; functions that are handed over. -/
set_option linter.unusedSimpArgs false
set_option linter.unusedVariables false
set_option maxRecDepth 100000
set_option maxHeartbeats 4000000
namespace Go.Proofs.Ytgimfjmigoibgaa.A
open Go
def likeR (a b : Rl) : Bool := decide (a = b)
theorem likeR_no1 {x y : Int} {l m : List Int} (h : ¬ x = y) : likeR (x, l) (y, m) = false := by unfold likeR; rw [decide_eq_false_iff_not]; exact fun e => h (congrArg Prod.fst e)
theorem likeR_eq {x y : Int} {l m : List Int} (h : x = y) : likeR (x, l) (y, m) = sameI l m := by subst h; unfold likeR sameI; simp
def idxRGo (b : Rl) : List Rl → Int → Int
 | [], _ => -1
 | x :: l, i => if x = b then i else idxRGo b l (i + 1)
def idxR (l : List Rl) (b : Rl) : Int := idxRGo b l 0
def hasR (l : List Rl) (b : Rl) : Bool := decide (b ∈ l)
theorem idxRGo_has (b : Rl) : ∀ (l : List Rl) (i : Int), 0 ≤ i → decide (idxRGo b l i ≥ 0) = decide (b ∈ l) := by
 intro l
 induction l with
 | nil => intro i _; simp [idxRGo]
 | cons x l ih =>
  intro i hi
  unfold idxRGo
  split
  ·rename_i h; subst h; simp [hi]
  ·rename_i h
   rw [ih (i + 1) (by omega)]
   have : ¬ b = x := fun e => h e.symm
   simp [this]
theorem idxR_has (l : List Rl) (b : Rl) : decide (idxR l b ≥ 0) = hasR l b := idxRGo_has b l 0 (by omega)
theorem pc_like (x y : Int) (l m : List Int) (hl : nI l < 4611686018427387904) (hm2 : nI m < 4611686018427387904) : PC Try.prog T 45 [.v true [vI x, (C.sl (nI l) (iC l))], .v true [vI y, (C.sl (nI m) (iC m))]] (ret1 (.st (vB (likeR (x, l) (y, m))))) [] := by
 refine pc_of tok Try.func45 rfl (by rfl) ?_
 obtain ⟨j, hj⟩ : ∃ j : J, j = std Try.prog T := ⟨_, rfl⟩
 have hm : Try.prog.follows .mixedOrders = true := by kernel_rfl
 generalize y_intsOf : @intsOf = x_intsOf at *
 generalize y_sameI : @sameI = x_sameI at *
 generalize y_likeR : @likeR = x_likeR at *
 generalize y_iC : @iC = x_iC at *
 generalize y_nI : @nI = x_nI at *
 (repeat' first | ((first | with_reducible refine tr_cut (fun h => ?_) (fun h => ?_) | refine aw_condj (by cbv) (fun h => ?_) (fun h => ?_)) <;> (try simp (disch := omega) only [hj, std, cmpI, cmpB, satB, Bool.not_eq_true, Bool.not_eq_false, decide_eq_true_eq, decide_eq_false_iff_not, beq_iff_eq, bne_iff_ne, bne_eq_false_iff_eq, beq_eq_false_iff_ne, ne_eq, reduceCtorEq, not_true_eq_false, not_false_eq_true, pl0, if_true, cmpS_eq, cmpS_neq, Bool.not_eq_eq_eq_not, Bool.not_true, Bool.not_false, Bool.not_eq_true', add64, sub64] at h) <;> (try (exfalso; omega))) | (with_reducible refine tr_alt (fun h => ?_) ?_ <;> (try (exfalso; omega))) | (with_reducible first | refine tr_ob ?_ ?_ | refine tr_done ?_) | (refine aw_tr hj tok (bookGs x_intsOf x_sameI) (by cbv) ?_) | (refine aw_seq fun K hK => ?_) | (refine aw_tr1 hj tok (bookGs x_intsOf x_sameI) (by cbv) ?_) | (refine aw_skip ?_) | (refine aw_block ?_) | (refine aw_exit ?_) | (refine aw_ret ⟨.inr rfl, ret_okj hj (by cbv) ?_ ?_⟩) | (refine aw_ret ?_) | (with_reducible first | refine th_n ?_ | refine th_r ?_ | refine th_x ?_ | refine blk_n ?_ | refine blk_r ?_ | refine blk_x ?_ | refine blk_y rfl ?_) | (refine ⟨.inr rfl, ret_okj hj (by cbv) ?_ ?_⟩) | (refine ⟨.inl rfl, ret_okj hj (by cbv) ?_ ?_⟩) | (with_reducible apply_assumption -symm -exfalso only [*]))
 all_goals ((try subst y_intsOf); (try subst y_sameI); (try subst y_likeR); (try subst y_iC); (try subst y_nI))
 all_goals (try (repeat' first | with_reducible exact obl0 | with_reducible refine obl1 ?_ ?_))
 all_goals (try first | with_reducible exact True.intro | ((first | refine ob_pc hj ?_ | refine ob_pcn hj ?_); (try rw [hj]); first | exact c_EqI (a := l) (b := m) rfl rfl rfl rfl hl hm2) | ((first | refine ob_le hj ?_ | refine ob_lei hj ?_ | refine ob_inb hj ?_ | refine ob_pos hj ?_ | refine ob_ne0 hj ?_ | refine ob_eqb hj ?_); (first | rfl | first | omega | (simp only [hj, std]; split <;> omega) | (simp (disch := omega) only [hj, std, cmpI, cmpB, satB, add64, sub64, ite0, pl0, pl2, pl3, sb0, if_true, if_false, eq_self] <;> omega) | (simp (disch := omega) [hj, std, cmpI, cmpB, satB, add64, sub64, ite0, pl0, pl2, pl3, sb0, if_true, if_false, eq_self] <;> omega))) | ((refine r1b ?_; exact likeR_no1 (by assumption))) | ((refine r1b ?_; rw [likeR_eq (by assumption), intsOf_iC, intsOf_iC])))
def bookGk (x_intsOf : List C → List Int) (x_rlsOf : List C → List Rl) (x_likeR : Rl → Rl → Bool) (x_idxR : List Rl → Rl → Int) (x_hasR : List Rl → Rl → Bool) : Book := fun f xs => match f, xs with
 | 45, [.v true [.val (.int .i64 x), .sl _ cs], .v true [.val (.int .i64 y), .sl _ ds]] => some (ret1 (.st (vB (x_likeR (x, x_intsOf cs) (y, x_intsOf ds)))))
 | 62, [.v true [.val (.int .i64 x), .sl _ cs], .root (.box [.st (.val (.int .i64 y)), .st (.sl m ds)])] => some (ret1 (.st (vB (x_likeR (x, x_intsOf cs) (y, x_intsOf ds)))), [.none, .box [.st (vI y), .st (.sl m ds)]])
 | 82, [.v false [.sl _ cs], .clo 62 [2], .virt (.box [.st (.val (.int .i64 y)), .st (.sl m ds)])] => some (ret1 (.st (vI (x_idxR (x_rlsOf cs) (y, x_intsOf ds)))), [.none, .none, .box [.st (vI y), .st (.sl m ds)]])
 | 61, [.v false [.sl _ cs], .clo 62 [2], .virt (.box [.st (.val (.int .i64 y)), .st (.sl m ds)])] => some (ret1 (.st (vB (x_hasR (x_rlsOf cs) (y, x_intsOf ds)))), [.none, .none, .box [.st (vI y), .st (.sl m ds)]])
 | _, _ => none
theorem c_like {x y : Int} {l k : List Int} {n m : Nat} {cs ds : List C} (h1 : n = nI l) (h2 : cs = iC l) (h3 : m = nI k) (h4 : ds = iC k) (ha : nI l < 4611686018427387904) (hb : nI k < 4611686018427387904) : pc 45 [.v true [vI x, .sl n cs], .v true [vI y, .sl m ds]] (ret1 (.st (vB (likeR (x, intsOf cs) (y, intsOf ds))))) := by
 subst h1; subst h2; subst h3; subst h4
 rw [intsOf_iC, intsOf_iC]
 exact ⟨enters Try.func45 (by kernel_rfl) (by kernel_rfl), pc_like x y l k ha hb⟩
theorem pc_tw1 (x y : Int) (l k : List Int) (ha : nI l < 4611686018427387904) (hb : nI k < 4611686018427387904) : PC Try.prog T 62 [.v true [vI x, (C.sl (nI l) (iC l))], .root (.box [.st (vI y), .st ((C.sl (nI k) (iC k)))])] (ret1 (.st (vB (likeR (x, l) (y, k))))) [.none, .box [.st (vI y), .st ((C.sl (nI k) (iC k)))]] := by
 refine pc_of tok Try.func62 rfl (by rfl) ?_
 obtain ⟨j, hj⟩ : ∃ j : J, j = std Try.prog T := ⟨_, rfl⟩
 have hm : Try.prog.follows .mixedOrders = true := by kernel_rfl
 generalize y_intsOf : @intsOf = x_intsOf at *
 generalize y_rlsOf : @rlsOf = x_rlsOf at *
 generalize y_likeR : @likeR = x_likeR at *
 generalize y_idxR : @idxR = x_idxR at *
 generalize y_hasR : @hasR = x_hasR at *
 generalize y_iC : @iC = x_iC at *
 generalize y_nI : @nI = x_nI at *
 (repeat' first | (refine ⟨.inr rfl, ret_oku hj (by cbv) (by cbv) rfl ?_ ?_ (upd_of ?_)⟩) | ((first | with_reducible refine tr_cut (fun h => ?_) (fun h => ?_) | refine aw_condj (by cbv) (fun h => ?_) (fun h => ?_)) <;> (try simp (disch := omega) only [hj, std, cmpI, cmpB, satB, Bool.not_eq_true, Bool.not_eq_false, decide_eq_true_eq, decide_eq_false_iff_not, beq_iff_eq, bne_iff_ne, bne_eq_false_iff_eq, beq_eq_false_iff_ne, ne_eq, reduceCtorEq, not_true_eq_false, not_false_eq_true, pl0, if_true, cmpS_eq, cmpS_neq, Bool.not_eq_eq_eq_not, Bool.not_true, Bool.not_false, Bool.not_eq_true', add64, sub64] at h) <;> (try (exfalso; omega))) | (with_reducible refine tr_alt (fun h => ?_) ?_ <;> (try (exfalso; omega))) | (with_reducible first | refine tr_ob ?_ ?_ | refine tr_done ?_) | (refine aw_tr hj tok (bookGk x_intsOf x_rlsOf x_likeR x_idxR x_hasR) (by cbv) ?_) | (refine aw_seq fun K hK => ?_) | (refine aw_tr1 hj tok (bookGk x_intsOf x_rlsOf x_likeR x_idxR x_hasR) (by cbv) ?_) | (refine aw_skip ?_) | (refine aw_block ?_) | (refine aw_exit ?_) | (refine aw_ret ⟨.inr rfl, ret_okj hj (by cbv) ?_ ?_⟩) | (refine aw_ret ?_) | (with_reducible first | refine th_n ?_ | refine th_r ?_ | refine th_x ?_ | refine blk_n ?_ | refine blk_r ?_ | refine blk_x ?_ | refine blk_y rfl ?_) | (refine ⟨.inr rfl, ret_okj hj (by cbv) ?_ ?_⟩) | (refine ⟨.inl rfl, ret_okj hj (by cbv) ?_ ?_⟩) | (with_reducible apply_assumption -symm -exfalso only [*]))
 all_goals ((try subst y_intsOf); (try subst y_rlsOf); (try subst y_likeR); (try subst y_idxR); (try subst y_hasR); (try subst y_iC); (try subst y_nI))
 all_goals (try (repeat' first | with_reducible exact obl0 | with_reducible refine obl1 ?_ ?_))
 all_goals (try first | with_reducible exact True.intro | ((first | refine ob_pc hj ?_ | refine ob_pcn hj ?_); (try rw [hj]); first | exact c_like (l := l) (k := k) rfl rfl rfl rfl ha hb) | ((first | refine ob_le hj ?_ | refine ob_lei hj ?_ | refine ob_inb hj ?_ | refine ob_pos hj ?_ | refine ob_ne0 hj ?_ | refine ob_eqb hj ?_); (first | rfl | first | omega | (simp only [hj, std]; split <;> omega) | (simp (disch := omega) only [hj, std, cmpI, cmpB, satB, add64, sub64, ite0, pl0, pl2, pl3, sb0, if_true, if_false, eq_self] <;> omega) | (simp (disch := omega) [hj, std, cmpI, cmpB, satB, add64, sub64, ite0, pl0, pl2, pl3, sb0, if_true, if_false, eq_self] <;> omega))) | ((refine r1b ?_; rw [intsOf_iC, intsOf_iC])) | ((refine upd_none (upd_box ?_ (upd_nil _)); exact rfl)))
theorem c_tw1 {x y : Int} {l k : List Int} {n m : Nat} {cs ds : List C} (h1 : n = nI l) (h2 : cs = iC l) (h3 : m = nI k) (h4 : ds = iC k) (ha : nI l < 4611686018427387904) (hb : nI k < 4611686018427387904) :
  (std Try.prog T).pc 62 [.v true [vI x, .sl n cs], .root (.box [.st (vI y), .st (.sl m ds)])] (ret1 (.st (vB (likeR (x, intsOf cs) (y, intsOf ds))))) [.none, .box [.st (vI y), .st (.sl m ds)]] := by
 subst h1; subst h2; subst h3; subst h4
 rw [intsOf_iC, intsOf_iC]
 exact ⟨enters Try.func62 (by kernel_rfl) (by kernel_rfl), pc_tw1 x y l k ha hb⟩
abbrev fnTw : FuncId := 62
theorem pc_IndexR (l : List Rl) (y : Int) (k : List Int) (hl : nR l ≤ 1000000) (hr : ∀ r ∈ l, nI r.2 < 4611686018427387904) (hk : nI k < 4611686018427387904) :
  PC Try.prog T 82 [.v false [(C.sl (nR l) (rC l))], .clo fnTw [2], .virt (.box [.st (vI y), .st ((C.sl (nI k) (iC k)))])] (ret1 (.st (vI (idxR l (y, k))))) [.none, .none, .box [.st (vI y), .st ((C.sl (nI k) (iC k)))]] := by
 refine pc_of tok Try.func82 rfl (by rfl) ?_
 obtain ⟨j, hj⟩ : ∃ j : J, j = std Try.prog T := ⟨_, rfl⟩
 have hm : Try.prog.follows .mixedOrders = true := by kernel_rfl
 have nl := nR_eq l
 generalize y_intsOf : @intsOf = x_intsOf at *
 generalize y_rlsOf : @rlsOf = x_rlsOf at *
 generalize y_likeR : @likeR = x_likeR at *
 generalize y_idxR : @idxR = x_idxR at *
 generalize y_hasR : @hasR = x_hasR at *
 generalize y_rC : @rC = x_rC at *
 generalize y_nR : @nR = x_nR at *
 generalize y_iC : @iC = x_iC at *
 generalize y_nI : @nI = x_nI at *
 (repeat' first | (refine ⟨.inr rfl, ret_oku hj (by cbv) (by cbv) rfl ?_ ?_ (upd_of ?_)⟩) | ((first | with_reducible refine tr_cut (fun h => ?_) (fun h => ?_) | refine aw_condj (by cbv) (fun h => ?_) (fun h => ?_)) <;> (try simp (disch := omega) only [hj, std, cmpI, cmpB, satB, Bool.not_eq_true, Bool.not_eq_false, decide_eq_true_eq, decide_eq_false_iff_not, beq_iff_eq, bne_iff_ne, bne_eq_false_iff_eq, beq_eq_false_iff_ne, ne_eq, reduceCtorEq, not_true_eq_false, not_false_eq_true, pl0, if_true, cmpS_eq, cmpS_neq, Bool.not_eq_eq_eq_not, Bool.not_true, Bool.not_false, Bool.not_eq_true', add64, sub64] at h) <;> (try (exfalso; omega))) | (with_reducible refine tr_alt (fun h => ?_) ?_ <;> (try (exfalso; omega))) | (with_reducible first | refine tr_ob ?_ ?_ | refine tr_done ?_) | (refine aw_tr hj tok (bookGk x_intsOf x_rlsOf x_likeR x_idxR x_hasR) (by cbv) ?_) | (refine aw_seq fun K hK => ?_) | (refine aw_tr1 hj tok (bookGk x_intsOf x_rlsOf x_likeR x_idxR x_hasR) (by cbv) ?_) | (refine aw_skip ?_) | (refine aw_block ?_) | (refine aw_exit ?_) | (refine aw_ret ⟨.inr rfl, ret_okj hj (by cbv) ?_ ?_⟩) | (refine aw_ret ?_) | (with_reducible first | refine th_n ?_ | refine th_r ?_ | refine th_x ?_ | refine blk_n ?_ | refine blk_r ?_ | refine blk_x ?_ | refine blk_y rfl ?_) | (refine ⟨.inr rfl, ret_okj hj (by cbv) ?_ ?_⟩) | (refine ⟨.inl rfl, ret_okj hj (by cbv) ?_ ?_⟩) | (with_reducible refine ⟨_, by cbv, ?_, ?_⟩) | (with_reducible apply_assumption -symm -exfalso only [*]))
 all_goals ((try subst y_intsOf); (try subst y_rlsOf); (try subst y_likeR); (try subst y_idxR); (try subst y_hasR); (try subst y_rC); (try subst y_nR); (try subst y_iC); (try subst y_nI))
 refine aw_lpj hj [(0, .keep), (1, .keep), (7, .keep), (8, .keep)] [] (fun (i : Int) => stOfR 19 [(0, .one (.c ((C.sl (nR l) (rC l))))), (1, .one (.fn fnTw [22])), (7, .one (.c (vI (j.ofNat (nR l))))), (8, .one (.c (vI i)))] [] [.none, .none, .box [.st (vI y), .st ((C.sl (nI k) (iC k)))]]) (fun (i : Int) => nR l - i.toNat) (fun (i : Int) => 0 ≤ i ∧ i ≤ nR l ∧ idxR l (y, k) = idxRGo (y, k) (l.drop i.toNat) i) (0) (by generalize @intsOf = x_intsOf; generalize @rlsOf = x_rlsOf; generalize @likeR = x_likeR; generalize @idxR = x_idxR; generalize @hasR = x_hasR; generalize @rC = x_rC; generalize @nR = x_nR; generalize @iC = x_iC; generalize @nI = x_nI; cbv) ?_ (fun i hI => ?_)
 ·exact ⟨by omega, by omega, rfl⟩
 obtain ⟨i1, i2, i3⟩ := hI
 have i4 : ¬ i < nR l → idxR l (y, k) = -1 := fun h => by rw [i3, rdrop_fin l i h]; rfl
 have i5 : i < nR l → rAt l i.toNat = (y, k) → idxR l (y, k) = i := fun h e => by rw [i3, rdrop_step l i i1 h, idxRGo, if_pos e]
 have i6 : i < nR l → ¬ rAt l i.toNat = (y, k) → idxR l (y, k) = idxRGo (y, k) (l.drop (i + 1).toNat) (i + 1) := fun h e => by rw [i3, rdrop_step l i i1 h, idxRGo, if_neg e]
 clear i3
 generalize y_intsOf : @intsOf = x_intsOf at *
 generalize y_rlsOf : @rlsOf = x_rlsOf at *
 generalize y_likeR : @likeR = x_likeR at *
 generalize y_idxR : @idxR = x_idxR at *
 generalize y_hasR : @hasR = x_hasR at *
 generalize y_rC : @rC = x_rC at *
 generalize y_nR : @nR = x_nR at *
 generalize y_iC : @iC = x_iC at *
 generalize y_nI : @nI = x_nI at *
 (repeat' first | (refine ⟨.inr rfl, ret_oku hj (by cbv) (by cbv) rfl ?_ ?_ (upd_of ?_)⟩) | ((first | with_reducible refine tr_cut (fun h => ?_) (fun h => ?_) | refine aw_condj (by cbv) (fun h => ?_) (fun h => ?_)) <;> (try simp (disch := omega) only [hj, std, cmpI, cmpB, satB, Bool.not_eq_true, Bool.not_eq_false, decide_eq_true_eq, decide_eq_false_iff_not, beq_iff_eq, bne_iff_ne, bne_eq_false_iff_eq, beq_eq_false_iff_ne, ne_eq, reduceCtorEq, not_true_eq_false, not_false_eq_true, pl0, if_true, cmpS_eq, cmpS_neq, Bool.not_eq_eq_eq_not, Bool.not_true, Bool.not_false, Bool.not_eq_true', add64, sub64] at h) <;> (try (exfalso; omega))) | (with_reducible refine tr_alt (fun h => ?_) ?_ <;> (try (exfalso; omega))) | (with_reducible first | refine tr_ob ?_ ?_ | refine tr_done ?_) | (refine aw_tr hj tok (bookGk x_intsOf x_rlsOf x_likeR x_idxR x_hasR) (by cbv) ?_) | (refine aw_seq fun K hK => ?_) | (refine aw_tr1 hj tok (bookGk x_intsOf x_rlsOf x_likeR x_idxR x_hasR) (by cbv) ?_) | (refine aw_skip ?_) | (refine aw_block ?_) | (refine aw_exit ?_) | (refine aw_ret ⟨.inr rfl, ret_okj hj (by cbv) ?_ ?_⟩) | (refine aw_ret ?_) | (with_reducible first | refine th_n ?_ | refine th_r ?_ | refine th_x ?_ | refine blk_n ?_ | refine blk_r ?_ | refine blk_x ?_ | refine blk_y rfl ?_) | (refine ⟨.inr rfl, ret_okj hj (by cbv) ?_ ?_⟩) | (refine ⟨.inl rfl, ret_okj hj (by cbv) ?_ ?_⟩) | (with_reducible refine ⟨_, by cbv, ?_, ?_⟩) | (with_reducible apply_assumption -symm -exfalso only [*]))
 all_goals ((try subst y_intsOf); (try subst y_rlsOf); (try subst y_likeR); (try subst y_idxR); (try subst y_hasR); (try subst y_rC); (try subst y_nR); (try subst y_iC); (try subst y_nI))
 all_goals (try have q := ‹likeR _ _ = true›)
 all_goals (try have q := ‹likeR _ _ = false›)
 all_goals (try simp only [ite0, gi_rC, gcR, gc_rC, intsOf_iC, likeR, decide_eq_true_eq, decide_eq_false_iff_not] at q)
 all_goals (try (repeat' first | with_reducible exact obl0 | with_reducible refine obl1 ?_ ?_))
 all_goals (try first | with_reducible exact True.intro | ((first | refine ob_pc hj ?_ | refine ob_pcn hj ?_); (try rw [hj]); first | exact c_tw1 (l := (rAt l i.toNat).2) (k := k) (gn_rC _ _) (gc_rC _ _) rfl rfl (hr _ (rAt_mem l i (by omega) (by omega))) hk) | ((first | refine ob_le hj ?_ | refine ob_lei hj ?_ | refine ob_inb hj ?_ | refine ob_pos hj ?_ | refine ob_ne0 hj ?_ | refine ob_eqb hj ?_); (first | rfl | first | omega | (simp only [hj, std]; split <;> omega) | (simp (disch := omega) only [hj, std, cmpI, cmpB, satB, add64, sub64, ite0, pl0, pl2, pl3, sb0, if_true, if_false, eq_self, rC_len] <;> omega) | (simp (disch := omega) [hj, std, cmpI, cmpB, satB, add64, sub64, ite0, pl0, pl2, pl3, sb0, if_true, if_false, eq_self, rC_len] <;> omega))) | ((refine ob_ok hj ?_; simp only [hj, std, ite0]; first | exact ok_rC1 (by omega) | exact ok_rC0 (by omega))) | ((refine upd_none (upd_none (upd_box ?_ (upd_nil _))); exact rfl)) | ((refine r1i ?_; exact i4 (by omega))) | ((refine r1i ?_; exact i5 (by omega) q)) | ((simp (disch := omega) only [hj, std, add64]; first | omega | exact ⟨by omega, by omega, i6 (by omega) q⟩)))
theorem pc_ContR (l : List Rl) (y : Int) (k : List Int) (hl : nR l ≤ 1000000) (hr : ∀ r ∈ l, nI r.2 < 4611686018427387904) (hk : nI k < 4611686018427387904) :
  PC Try.prog T 61 [.v false [(C.sl (nR l) (rC l))], .clo fnTw [2], .virt (.box [.st (vI y), .st ((C.sl (nI k) (iC k)))])] (ret1 (.st (vB (hasR l (y, k))))) [.none, .none, .box [.st (vI y), .st ((C.sl (nI k) (iC k)))]] := by
 have hc : (std Try.prog T).pc 82 [.v false [(C.sl (nR l) (rC l))], .clo fnTw [2], .virt (.box [.st (vI y), .st ((C.sl (nI k) (iC k)))])] (ret1 (.st (vI (idxR (rlsOf (rC l)) (y, intsOf (iC k)))))) [.none, .none, .box [.st (vI y), .st ((C.sl (nI k) (iC k)))]] := by
  rw [rlsOf_rC, intsOf_iC]
  exact ⟨enters Try.func82 (by kernel_rfl) (by kernel_rfl), pc_IndexR l y k hl hr hk⟩
 refine pc_of tok Try.func61 rfl (by rfl) ?_
 obtain ⟨j, hj⟩ : ∃ j : J, j = std Try.prog T := ⟨_, rfl⟩
 have hm : Try.prog.follows .mixedOrders = true := by kernel_rfl
 generalize y_intsOf : @intsOf = x_intsOf at *
 generalize y_rlsOf : @rlsOf = x_rlsOf at *
 generalize y_likeR : @likeR = x_likeR at *
 generalize y_idxR : @idxR = x_idxR at *
 generalize y_hasR : @hasR = x_hasR at *
 generalize y_rC : @rC = x_rC at *
 generalize y_nR : @nR = x_nR at *
 generalize y_iC : @iC = x_iC at *
 generalize y_nI : @nI = x_nI at *
 (repeat' first | (refine ⟨.inr rfl, ret_oku hj (by cbv) (by cbv) rfl ?_ ?_ (upd_of ?_)⟩) | ((first | with_reducible refine tr_cut (fun h => ?_) (fun h => ?_) | refine aw_condj (by cbv) (fun h => ?_) (fun h => ?_)) <;> (try simp (disch := omega) only [hj, std, cmpI, cmpB, satB, Bool.not_eq_true, Bool.not_eq_false, decide_eq_true_eq, decide_eq_false_iff_not, beq_iff_eq, bne_iff_ne, bne_eq_false_iff_eq, beq_eq_false_iff_ne, ne_eq, reduceCtorEq, not_true_eq_false, not_false_eq_true, pl0, if_true, cmpS_eq, cmpS_neq, Bool.not_eq_eq_eq_not, Bool.not_true, Bool.not_false, Bool.not_eq_true', add64, sub64] at h) <;> (try (exfalso; omega))) | (with_reducible refine tr_alt (fun h => ?_) ?_ <;> (try (exfalso; omega))) | (with_reducible first | refine tr_ob ?_ ?_ | refine tr_done ?_) | (refine aw_tr hj tok (bookGk x_intsOf x_rlsOf x_likeR x_idxR x_hasR) (by cbv) ?_) | (refine aw_seq fun K hK => ?_) | (refine aw_tr1 hj tok (bookGk x_intsOf x_rlsOf x_likeR x_idxR x_hasR) (by cbv) ?_) | (refine aw_skip ?_) | (refine aw_block ?_) | (refine aw_exit ?_) | (refine aw_ret ⟨.inr rfl, ret_okj hj (by cbv) ?_ ?_⟩) | (refine aw_ret ?_) | (with_reducible first | refine th_n ?_ | refine th_r ?_ | refine th_x ?_ | refine blk_n ?_ | refine blk_r ?_ | refine blk_x ?_ | refine blk_y rfl ?_) | (refine ⟨.inr rfl, ret_okj hj (by cbv) ?_ ?_⟩) | (refine ⟨.inl rfl, ret_okj hj (by cbv) ?_ ?_⟩) | (with_reducible apply_assumption -symm -exfalso only [*]))
 all_goals ((try subst y_intsOf); (try subst y_rlsOf); (try subst y_likeR); (try subst y_idxR); (try subst y_hasR); (try subst y_rC); (try subst y_nR); (try subst y_iC); (try subst y_nI))
 all_goals (try (repeat' first | with_reducible exact obl0 | with_reducible refine obl1 ?_ ?_))
 all_goals (try first | with_reducible exact True.intro | ((first | refine ob_pc hj ?_ | refine ob_pcn hj ?_); (try rw [hj]); first | exact hc) | ((first | refine ob_le hj ?_ | refine ob_lei hj ?_ | refine ob_inb hj ?_ | refine ob_pos hj ?_ | refine ob_ne0 hj ?_ | refine ob_eqb hj ?_); (first | rfl | first | omega | (simp only [hj, std]; split <;> omega) | (simp (disch := omega) only [hj, std, cmpI, cmpB, satB, add64, sub64, ite0, pl0, pl2, pl3, sb0, if_true, if_false, eq_self] <;> omega) | (simp (disch := omega) [hj, std, cmpI, cmpB, satB, add64, sub64, ite0, pl0, pl2, pl3, sb0, if_true, if_false, eq_self] <;> omega))) | ((refine r1b ?_; rw [rlsOf_rC, intsOf_iC, ← idxR_has, hj]; rfl)) | ((refine upd_none (upd_none (upd_box ?_ (upd_nil _))); exact rfl)))
theorem c_ContR {l : List Rl} {y : Int} {k : List Int} {n m : Nat} {cs ds : List C} (h1 : n = nR l) (h2 : cs = rC l) (h3 : m = nI k) (h4 : ds = iC k) (hl : nR l ≤ 1000000) (hr : ∀ r ∈ l, nI r.2 < 4611686018427387904) (hk : nI k < 4611686018427387904) :
  (std Try.prog T).pc 61 [.v false [.sl n cs], .clo fnTw [2], .virt (.box [.st (vI y), .st (.sl m ds)])] (ret1 (.st (vB (hasR (rlsOf cs) (y, intsOf ds))))) [.none, .none, .box [.st (vI y), .st (.sl m ds)]] := by
 subst h1; subst h2; subst h3; subst h4
 rw [rlsOf_rC, intsOf_iC]
 exact ⟨enters Try.func61 (by kernel_rfl) (by kernel_rfl), pc_ContR l y k hl hr hk⟩
theorem hasR_take {l : List Rl} {i : Int} (h0 : 0 ≤ i) (hi : i < nR l) (h : hasR (l.take i.toNat) (rAt l i.toNat) = true) : dupR l = true := by
 unfold hasR at h; rw [decide_eq_true_eq] at h
 obtain ⟨n, hn, e⟩ := List.mem_iff_getElem.1 h
 have hnr := nR_eq l
 have hn2 : n < i.toNat := by rw [List.length_take] at hn; omega
 have e2 : rAt l n = rAt l i.toNat := by rw [← e, List.getElem_take, rAt_get (by omega)]
 exact dupR_yes hn2 (by omega) (congrArg Prod.fst e2.symm) (congrArg Prod.snd e2.symm)
theorem hasR_not {l : List Rl} {i : Int} (h0 : 0 ≤ i) (hi : i < nR l) (h : hasR (l.take i.toNat) (rAt l i.toNat) = false) : ∀ k : Nat, k < i.toNat → rAt l i.toNat ≠ rAt l k := by
 unfold hasR at h; rw [decide_eq_false_iff_not] at h
 intro k hk e
 have hnr := nR_eq l
 refine h ?_
 rw [e]
 have hkl : k < (l.take i.toNat).length := by rw [List.length_take]; omega
 have : (l.take i.toNat)[k] = rAt l k := by rw [List.getElem_take, rAt_get (by omega)]
 rw [← this]; exact List.getElem_mem hkl
theorem take_nR (l : List Rl) {i : Int} (h0 : 0 ≤ i) (h : i ≤ nR l) : nR (l.take i.toNat) = i.toNat := by
 have := nR_eq l
 rw [nR_eq, List.length_take]; omega
theorem pc_twiceG (l : List Rl) (hl : nR l ≤ 1000000) (hr : ∀ r ∈ l, nI r.2 < 4611686018427387904) : PC Try.prog T 36 [.v false [(C.sl (nR l) (rC l))]] (ret1 (.st (vB (dupR l)))) [] := by
 refine pc_of tok Try.func36 rfl (by rfl) ?_
 obtain ⟨j, hj⟩ : ∃ j : J, j = std Try.prog T := ⟨_, rfl⟩
 have hm : Try.prog.follows .mixedOrders = true := by kernel_rfl
 have nl := nR_eq l
 generalize y_intsOf : @intsOf = x_intsOf at *
 generalize y_rlsOf : @rlsOf = x_rlsOf at *
 generalize y_likeR : @likeR = x_likeR at *
 generalize y_idxR : @idxR = x_idxR at *
 generalize y_hasR : @hasR = x_hasR at *
 generalize y_rC : @rC = x_rC at *
 generalize y_nR : @nR = x_nR at *
 generalize y_dupR : @dupR = x_dupR at *
 generalize y_nI : @nI = x_nI at *
 (repeat' first | ((first | with_reducible refine tr_cut (fun h => ?_) (fun h => ?_) | refine aw_condj (by cbv) (fun h => ?_) (fun h => ?_)) <;> (try simp (disch := omega) only [hj, std, cmpI, cmpB, satB, Bool.not_eq_true, Bool.not_eq_false, decide_eq_true_eq, decide_eq_false_iff_not, beq_iff_eq, bne_iff_ne, bne_eq_false_iff_eq, beq_eq_false_iff_ne, ne_eq, reduceCtorEq, not_true_eq_false, not_false_eq_true, pl0, if_true, cmpS_eq, cmpS_neq, Bool.not_eq_eq_eq_not, Bool.not_true, Bool.not_false, Bool.not_eq_true', add64, sub64] at h) <;> (try (exfalso; omega))) | (with_reducible refine tr_alt (fun h => ?_) ?_ <;> (try (exfalso; omega))) | (with_reducible first | refine tr_ob ?_ ?_ | refine tr_done ?_) | (refine aw_tr hj tok (bookGk x_intsOf x_rlsOf x_likeR x_idxR x_hasR) (by cbv) ?_) | (refine aw_seq fun K hK => ?_) | (refine aw_tr1 hj tok (bookGk x_intsOf x_rlsOf x_likeR x_idxR x_hasR) (by cbv) ?_) | (refine aw_skip ?_) | (refine aw_block ?_) | (refine aw_exit ?_) | (refine aw_ret ⟨.inr rfl, ret_okj hj (by cbv) ?_ ?_⟩) | (refine aw_ret ?_) | (with_reducible first | refine th_n ?_ | refine th_r ?_ | refine th_x ?_ | refine blk_n ?_ | refine blk_r ?_ | refine blk_x ?_ | refine blk_y rfl ?_) | (refine ⟨.inr rfl, ret_okj hj (by cbv) ?_ ?_⟩) | (refine ⟨.inl rfl, ret_okj hj (by cbv) ?_ ?_⟩) | (with_reducible refine ⟨_, by cbv, ?_, ?_⟩) | (with_reducible apply_assumption -symm -exfalso only [*]))
 all_goals ((try subst y_intsOf); (try subst y_rlsOf); (try subst y_likeR); (try subst y_idxR); (try subst y_hasR); (try subst y_rC); (try subst y_nR); (try subst y_dupR); (try subst y_nI))
 refine aw_lpj hj [(0, .keep), (5, .keep), (6, .keep), (7, .keep)] [] (fun (i : Int) => stOf 18 [(0, .one (.c ((C.sl (nR l) (rC l))))), (5, .one (.c ((C.sl (nR l) (rC l))))), (6, .one (.c (vI (j.ofNat (nR l))))), (7, .one (.c (vI i)))] []) (fun (i : Int) => nR l - i.toNat) (fun (i : Int) => 0 ≤ i ∧ i ≤ nR l ∧ ∀ n : Nat, (n : Int) < i → ∀ k : Nat, k < n → rAt l n ≠ rAt l k) (0) (by generalize @intsOf = x_intsOf; generalize @rlsOf = x_rlsOf; generalize @likeR = x_likeR; generalize @idxR = x_idxR; generalize @hasR = x_hasR; generalize @rC = x_rC; generalize @nR = x_nR; generalize @dupR = x_dupR; generalize @nI = x_nI; cbv) ?_ (fun i hI => ?_)
 ·exact ⟨by omega, by omega, fun n h => by omega⟩
 obtain ⟨i1, i2, i3⟩ := hI
 generalize y_intsOf : @intsOf = x_intsOf at *
 generalize y_rlsOf : @rlsOf = x_rlsOf at *
 generalize y_likeR : @likeR = x_likeR at *
 generalize y_idxR : @idxR = x_idxR at *
 generalize y_hasR : @hasR = x_hasR at *
 generalize y_rC : @rC = x_rC at *
 generalize y_nR : @nR = x_nR at *
 generalize y_dupR : @dupR = x_dupR at *
 generalize y_nI : @nI = x_nI at *
 (repeat' first | ((first | with_reducible refine tr_cut (fun h => ?_) (fun h => ?_) | refine aw_condj (by cbv) (fun h => ?_) (fun h => ?_)) <;> (try simp (disch := omega) only [hj, std, cmpI, cmpB, satB, Bool.not_eq_true, Bool.not_eq_false, decide_eq_true_eq, decide_eq_false_iff_not, beq_iff_eq, bne_iff_ne, bne_eq_false_iff_eq, beq_eq_false_iff_ne, ne_eq, reduceCtorEq, not_true_eq_false, not_false_eq_true, pl0, if_true, cmpS_eq, cmpS_neq, Bool.not_eq_eq_eq_not, Bool.not_true, Bool.not_false, Bool.not_eq_true', add64, sub64] at h) <;> (try (exfalso; omega))) | (with_reducible refine tr_alt (fun h => ?_) ?_ <;> (try (exfalso; omega))) | (with_reducible first | refine tr_ob ?_ ?_ | refine tr_done ?_) | (refine aw_tr hj tok (bookGk x_intsOf x_rlsOf x_likeR x_idxR x_hasR) (by cbv) ?_) | (refine aw_seq fun K hK => ?_) | (refine aw_tr1 hj tok (bookGk x_intsOf x_rlsOf x_likeR x_idxR x_hasR) (by cbv) ?_) | (refine aw_skip ?_) | (refine aw_block ?_) | (refine aw_exit ?_) | (refine aw_ret ⟨.inr rfl, ret_okj hj (by cbv) ?_ ?_⟩) | (refine aw_ret ?_) | (with_reducible first | refine th_n ?_ | refine th_r ?_ | refine th_x ?_ | refine blk_n ?_ | refine blk_r ?_ | refine blk_x ?_ | refine blk_y rfl ?_) | (refine ⟨.inr rfl, ret_okj hj (by cbv) ?_ ?_⟩) | (refine ⟨.inl rfl, ret_okj hj (by cbv) ?_ ?_⟩) | (with_reducible refine ⟨_, by cbv, ?_, ?_⟩) | (with_reducible apply_assumption -symm -exfalso only [*]))
 all_goals ((try subst y_intsOf); (try subst y_rlsOf); (try subst y_likeR); (try subst y_idxR); (try subst y_hasR); (try subst y_rC); (try subst y_nR); (try subst y_dupR); (try subst y_nI))
 all_goals (try have q := ‹hasR _ _ = true›)
 all_goals (try have q := ‹hasR _ _ = false›)
 all_goals (try simp only [Nat.zero_mul, gi_rC, gc_rC, rC_take, rlsOf_rC, intsOf_iC] at q)
 all_goals (try (repeat' first | with_reducible exact obl0 | with_reducible refine obl1 ?_ ?_))
 all_goals (try first | with_reducible exact True.intro | ((first | refine ob_pc hj ?_ | refine ob_pcn hj ?_); (try rw [hj]); first | exact c_ContR (l := l.take i.toNat) (k := (rAt l i.toNat).2) (take_nR l i1 i2).symm (rC_take l _) (gn_rC _ _) (gc_rC _ _) (by rw [take_nR l i1 i2]; omega) (fun r h => hr r (List.mem_of_mem_take h)) (hr _ (rAt_mem l i (by omega) (by omega)))) | ((first | refine ob_le hj ?_ | refine ob_lei hj ?_ | refine ob_inb hj ?_ | refine ob_pos hj ?_ | refine ob_ne0 hj ?_ | refine ob_eqb hj ?_); (first | rfl | first | omega | (simp only [hj, std]; split <;> omega) | (simp (disch := omega) only [hj, std, cmpI, cmpB, satB, add64, sub64, ite0, pl0, pl2, pl3, sb0, if_true, if_false, eq_self, rC_len] <;> omega) | (simp (disch := omega) [hj, std, cmpI, cmpB, satB, add64, sub64, ite0, pl0, pl2, pl3, sb0, if_true, if_false, eq_self, rC_len] <;> omega))) | ((refine ob_ok hj ?_; simp only [hj, std, ite0]; first | exact ok_rC1 (by omega) | exact ok_rC0 (by omega))) | ((refine r1b ?_; exact dupR_no fun n hn => i3 n (by omega))) | ((refine r1b ?_; exact hasR_take i1 (by omega) q)) | ((simp (disch := omega) only [hj, std, add64]; first | omega | (refine ⟨by omega, by omega, fun n hn => ?_⟩; by_cases e : (n : Int) < i; exact i3 n e; obtain rfl : n = i.toNat := (by omega); exact hasR_not i1 (by omega) q))))
end Go.Proofs.Ytgimfjmigoibgaa.A
/- Grammars: does a rule fit a grammar ? -/
set_option linter.unusedSimpArgs false
set_option linter.unusedVariables false
set_option maxRecDepth 100000
set_option maxHeartbeats 4000000
namespace Go.Proofs.Ytgimfjmigoibgaa.A
open Go
/-! ### does a rule fit ? -/
def badI (n t : Nat) (s : Int) : Bool := decide (s ≥ n ∨ s < -(t : Int))
def idxBGo (n t : Nat) : List Int → Int → Int
 | [], _ => -1
 | x :: l, i => if badI n t x = true then i else idxBGo n t l (i + 1)
def idxB (n t : Nat) (l : List Int) : Int := idxBGo n t l 0
def hasB (n t : Nat) (l : List Int) : Bool := l.any (badI n t)
theorem idxBGo_has (n t : Nat) : ∀ (l : List Int) (i : Int), 0 ≤ i → decide (idxBGo n t l i ≥ 0) = l.any (badI n t) := by
 intro l
 induction l with
 | nil => intro i _; simp [idxBGo]
 | cons x l ih =>
  intro i hi
  unfold idxBGo
  rw [List.any_cons]
  split
  ·rename_i h; simp [h, hi]
  ·rename_i h
   rw [ih (i + 1) (by omega)]
   simp [h]
theorem idxB_has (n t : Nat) (l : List Int) : decide (idxB n t l ≥ 0) = hasB n t l := idxBGo_has n t l 0 (by omega)
theorem idrop_step (l : List Int) (i : Int) (h0 : 0 ≤ i) (h : i < nI l) : l.drop i.toNat = iAt l i.toNat :: l.drop (i + 1).toNat := by
 have hn := nI_eq l
 have e : (i + 1).toNat = i.toNat + 1 := by omega
 rw [e]; exact drop_cons _ (by omega)
theorem idrop_fin (l : List Int) (i : Int) (h : ¬ i < nI l) : l.drop i.toNat = [] := by
 have hn := nI_eq l
 exact List.drop_eq_nil_of_le (by omega)
def fitR (n t : Nat) (r : Rl) : Bool := decide (0 ≤ r.1 ∧ r.1 < n ∧ nI r.2 ≤ 64) && !hasB n t r.2
abbrev fnFit : FuncId := 60
def bookGf (x_intsOf : List C → List Int) (x_badI : Nat → Nat → Int → Bool) (x_idxB : Nat → Nat → List Int → Int) (x_hasB : Nat → Nat → List Int → Bool) : Book := fun f xs => match f, xs with
 | 60, [.v false [.val (.int .i64 x)], .root (.box [.st (.sl n cs), .st (.sl t ds), .st (.sl r es)])] => some (ret1 (.st (vB (x_badI n t x))), [.none, .box [.st (.sl n cs), .st (.sl t ds), .st (.sl r es)]])
 | 81, [.v false [.sl _ zs], .clo 60 [2], .virt (.box [.st (.sl n cs), .st (.sl t ds), .st (.sl r es)])] => some (ret1 (.st (vI (x_idxB n t (x_intsOf zs)))), [.none, .none, .box [.st (.sl n cs), .st (.sl t ds), .st (.sl r es)]])
 | 59, [.v false [.sl _ zs], .clo 60 [2], .virt (.box [.st (.sl n cs), .st (.sl t ds), .st (.sl r es)])] => some (ret1 (.st (vB (x_hasB n t (x_intsOf zs)))), [.none, .none, .box [.st (.sl n cs), .st (.sl t ds), .st (.sl r es)]])
 | _, _ => none
theorem c_fit1 (x : Int) (n t r : Nat) (cs ds es : List C) (hn : n ≤ 1000000) (ht : t ≤ 1000000) : (std Try.prog T).pc 60 [.v false [vI x], .root (.box [.st (.sl n cs), .st (.sl t ds), .st (.sl r es)])] (ret1 (.st (vB (badI n t x)))) [.none, .box [.st (.sl n cs), .st (.sl t ds), .st (.sl r es)]] := by
 refine ⟨enters Try.func60 (by kernel_rfl) (by kernel_rfl), pc_of tok Try.func60 rfl (by rfl) ?_⟩
 obtain ⟨j, hj⟩ : ∃ j : J, j = std Try.prog T := ⟨_, rfl⟩
 have hm : Try.prog.follows .mixedOrders = true := by kernel_rfl
 generalize y_badI : @badI = x_badI at *
 (repeat' first | (refine ⟨.inr rfl, ret_oku hj (by cbv) (by cbv) rfl ?_ ?_ (upd_of ?_)⟩) | ((first | with_reducible refine tr_cut (fun h => ?_) (fun h => ?_) | refine aw_condj (by cbv) (fun h => ?_) (fun h => ?_)) <;> (try simp (disch := omega) only [hj, std, cmpI, cmpB, satB, Bool.not_eq_true, Bool.not_eq_false, decide_eq_true_eq, decide_eq_false_iff_not, beq_iff_eq, bne_iff_ne, bne_eq_false_iff_eq, beq_eq_false_iff_ne, ne_eq, reduceCtorEq, not_true_eq_false, not_false_eq_true, pl0, if_true, cmpS_eq, cmpS_neq, Bool.not_eq_eq_eq_not, Bool.not_true, Bool.not_false, Bool.not_eq_true', add64, sub64] at h) <;> (try (exfalso; omega))) | (with_reducible refine tr_alt (fun h => ?_) ?_ <;> (try (exfalso; omega))) | (with_reducible first | refine tr_ob ?_ ?_ | refine tr_done ?_) | (refine aw_tr hj tok book0 (by cbv) ?_) | (refine aw_seq fun K hK => ?_) | (refine aw_tr1 hj tok book0 (by cbv) ?_) | (refine aw_skip ?_) | (refine aw_block ?_) | (refine aw_exit ?_) | (refine aw_ret ⟨.inr rfl, ret_okj hj (by cbv) ?_ ?_⟩) | (refine aw_ret ?_) | (with_reducible first | refine th_n ?_ | refine th_r ?_ | refine th_x ?_ | refine blk_n ?_ | refine blk_r ?_ | refine blk_x ?_ | refine blk_y rfl ?_) | (refine ⟨.inr rfl, ret_okj hj (by cbv) ?_ ?_⟩) | (refine ⟨.inl rfl, ret_okj hj (by cbv) ?_ ?_⟩) | (with_reducible apply_assumption -symm -exfalso only [*]))
 all_goals ((try subst y_badI))
 all_goals (try (repeat' first | with_reducible exact obl0 | with_reducible refine obl1 ?_ ?_))
 all_goals (try first | with_reducible exact True.intro | ((first | refine ob_le hj ?_ | refine ob_lei hj ?_ | refine ob_inb hj ?_ | refine ob_pos hj ?_ | refine ob_ne0 hj ?_ | refine ob_eqb hj ?_); (first | rfl | first | omega | (simp only [hj, std]; split <;> omega) | (simp (disch := omega) only [hj, std, cmpI, cmpB, satB, add64, sub64, ite0, pl0, pl2, pl3, sb0, if_true, if_false, eq_self] <;> omega) | (simp (disch := omega) [hj, std, cmpI, cmpB, satB, add64, sub64, ite0, pl0, pl2, pl3, sb0, if_true, if_false, eq_self] <;> omega))) | ((refine upd_none (upd_box ?_ (upd_nil _)); exact rfl)) | ((refine r1b ?_; unfold badI; rw [decide_eq_true_eq]; exact .inl (by omega))) | ((refine r1b ?_; unfold badI; rw [hj]; show _ = decide (x < arithI .sub .i64 0 t); rw [sub64 (by omega) (by omega)]; rw [Bool.eq_iff_iff]; simp <;> omega)))
theorem pc_IndexB (l : List Int) (n t r : Nat) (cs ds es : List C) (hl : nI l ≤ 1000000) (hn : n ≤ 1000000) (ht : t ≤ 1000000) :
  PC Try.prog T 81 [.v false [(C.sl (nI l) (iC l))], .clo fnFit [2], .virt (.box [.st (.sl n cs), .st (.sl t ds), .st (.sl r es)])] (ret1 (.st (vI (idxB n t l)))) [.none, .none, .box [.st (.sl n cs), .st (.sl t ds), .st (.sl r es)]] := by
 refine pc_of tok Try.func81 rfl (by rfl) ?_
 obtain ⟨j, hj⟩ : ∃ j : J, j = std Try.prog T := ⟨_, rfl⟩
 have hm : Try.prog.follows .mixedOrders = true := by kernel_rfl
 have nl := nI_eq l
 generalize y_intsOf : @intsOf = x_intsOf at *
 generalize y_badI : @badI = x_badI at *
 generalize y_idxB : @idxB = x_idxB at *
 generalize y_hasB : @hasB = x_hasB at *
 generalize y_iC : @iC = x_iC at *
 generalize y_nI : @nI = x_nI at *
 (repeat' first | (refine ⟨.inr rfl, ret_oku hj (by cbv) (by cbv) rfl ?_ ?_ (upd_of ?_)⟩) | ((first | with_reducible refine tr_cut (fun h => ?_) (fun h => ?_) | refine aw_condj (by cbv) (fun h => ?_) (fun h => ?_)) <;> (try simp (disch := omega) only [hj, std, cmpI, cmpB, satB, Bool.not_eq_true, Bool.not_eq_false, decide_eq_true_eq, decide_eq_false_iff_not, beq_iff_eq, bne_iff_ne, bne_eq_false_iff_eq, beq_eq_false_iff_ne, ne_eq, reduceCtorEq, not_true_eq_false, not_false_eq_true, pl0, if_true, cmpS_eq, cmpS_neq, Bool.not_eq_eq_eq_not, Bool.not_true, Bool.not_false, Bool.not_eq_true', add64, sub64] at h) <;> (try (exfalso; omega))) | (with_reducible refine tr_alt (fun h => ?_) ?_ <;> (try (exfalso; omega))) | (with_reducible first | refine tr_ob ?_ ?_ | refine tr_done ?_) | (refine aw_tr hj tok (bookGf x_intsOf x_badI x_idxB x_hasB) (by cbv) ?_) | (refine aw_seq fun K hK => ?_) | (refine aw_tr1 hj tok (bookGf x_intsOf x_badI x_idxB x_hasB) (by cbv) ?_) | (refine aw_skip ?_) | (refine aw_block ?_) | (refine aw_exit ?_) | (refine aw_ret ⟨.inr rfl, ret_okj hj (by cbv) ?_ ?_⟩) | (refine aw_ret ?_) | (with_reducible first | refine th_n ?_ | refine th_r ?_ | refine th_x ?_ | refine blk_n ?_ | refine blk_r ?_ | refine blk_x ?_ | refine blk_y rfl ?_) | (refine ⟨.inr rfl, ret_okj hj (by cbv) ?_ ?_⟩) | (refine ⟨.inl rfl, ret_okj hj (by cbv) ?_ ?_⟩) | (with_reducible refine ⟨_, by cbv, ?_, ?_⟩) | (with_reducible apply_assumption -symm -exfalso only [*]))
 all_goals ((try subst y_intsOf); (try subst y_badI); (try subst y_idxB); (try subst y_hasB); (try subst y_iC); (try subst y_nI))
 refine aw_lpj hj [(0, .keep), (1, .keep), (7, .keep), (8, .keep)] [] (fun (i : Int) => stOfR 19 [(0, .one (.c ((C.sl (nI l) (iC l))))), (1, .one (.fn fnFit [22])), (7, .one (.c (vI (j.ofNat (nI l))))), (8, .one (.c (vI i)))] [] [.none, .none, .box [.st (.sl n cs), .st (.sl t ds), .st (.sl r es)]]) (fun (i : Int) => nI l - i.toNat) (fun (i : Int) => 0 ≤ i ∧ i ≤ nI l ∧ idxB n t l = idxBGo n t (l.drop i.toNat) i) (0) (by generalize @intsOf = x_intsOf; generalize @badI = x_badI; generalize @idxB = x_idxB; generalize @hasB = x_hasB; generalize @iC = x_iC; generalize @nI = x_nI; cbv) ?_ (fun i hI => ?_)
 ·exact ⟨by omega, by omega, rfl⟩
 obtain ⟨i1, i2, i3⟩ := hI
 have i4 : ¬ i < nI l → idxB n t l = -1 := fun h => by rw [i3, idrop_fin l i h]; rfl
 have i5 : i < nI l → badI n t (iAt l i.toNat) = true → idxB n t l = i := fun h e => by rw [i3, idrop_step l i i1 h, idxBGo, if_pos e]
 have i6 : i < nI l → ¬ badI n t (iAt l i.toNat) = true → idxB n t l = idxBGo n t (l.drop (i + 1).toNat) (i + 1) := fun h e => by rw [i3, idrop_step l i i1 h, idxBGo, if_neg e]
 clear i3
 generalize y_intsOf : @intsOf = x_intsOf at *
 generalize y_badI : @badI = x_badI at *
 generalize y_idxB : @idxB = x_idxB at *
 generalize y_hasB : @hasB = x_hasB at *
 generalize y_iC : @iC = x_iC at *
 generalize y_nI : @nI = x_nI at *
 (repeat' first | (refine ⟨.inr rfl, ret_oku hj (by cbv) (by cbv) rfl ?_ ?_ (upd_of ?_)⟩) | ((first | with_reducible refine tr_cut (fun h => ?_) (fun h => ?_) | refine aw_condj (by cbv) (fun h => ?_) (fun h => ?_)) <;> (try simp (disch := omega) only [hj, std, cmpI, cmpB, satB, Bool.not_eq_true, Bool.not_eq_false, decide_eq_true_eq, decide_eq_false_iff_not, beq_iff_eq, bne_iff_ne, bne_eq_false_iff_eq, beq_eq_false_iff_ne, ne_eq, reduceCtorEq, not_true_eq_false, not_false_eq_true, pl0, if_true, cmpS_eq, cmpS_neq, Bool.not_eq_eq_eq_not, Bool.not_true, Bool.not_false, Bool.not_eq_true', add64, sub64] at h) <;> (try (exfalso; omega))) | (with_reducible refine tr_alt (fun h => ?_) ?_ <;> (try (exfalso; omega))) | (with_reducible first | refine tr_ob ?_ ?_ | refine tr_done ?_) | (refine aw_tr hj tok (bookGf x_intsOf x_badI x_idxB x_hasB) (by cbv) ?_) | (refine aw_seq fun K hK => ?_) | (refine aw_tr1 hj tok (bookGf x_intsOf x_badI x_idxB x_hasB) (by cbv) ?_) | (refine aw_skip ?_) | (refine aw_block ?_) | (refine aw_exit ?_) | (refine aw_ret ⟨.inr rfl, ret_okj hj (by cbv) ?_ ?_⟩) | (refine aw_ret ?_) | (with_reducible first | refine th_n ?_ | refine th_r ?_ | refine th_x ?_ | refine blk_n ?_ | refine blk_r ?_ | refine blk_x ?_ | refine blk_y rfl ?_) | (refine ⟨.inr rfl, ret_okj hj (by cbv) ?_ ?_⟩) | (refine ⟨.inl rfl, ret_okj hj (by cbv) ?_ ?_⟩) | (with_reducible refine ⟨_, by cbv, ?_, ?_⟩) | (with_reducible apply_assumption -symm -exfalso only [*]))
 all_goals ((try subst y_intsOf); (try subst y_badI); (try subst y_idxB); (try subst y_hasB); (try subst y_iC); (try subst y_nI))
 all_goals (try have q := ‹badI _ _ _ = true›)
 all_goals (try have q := ‹badI _ _ _ = false›)
 all_goals (try rw [gi_iC] at q)
 all_goals (try (repeat' first | with_reducible exact obl0 | with_reducible refine obl1 ?_ ?_))
 all_goals (try first | with_reducible exact True.intro | ((first | refine ob_pc hj ?_ | refine ob_pcn hj ?_); (try rw [hj]); first | exact c_fit1 _ _ _ _ _ _ _ hn ht) | ((first | refine ob_le hj ?_ | refine ob_lei hj ?_ | refine ob_inb hj ?_ | refine ob_pos hj ?_ | refine ob_ne0 hj ?_ | refine ob_eqb hj ?_); (first | rfl | first | omega | (simp only [hj, std]; split <;> omega) | (simp (disch := omega) only [hj, std, cmpI, cmpB, satB, add64, sub64, ite0, pl0, pl2, pl3, sb0, if_true, if_false, eq_self, iC_len] <;> omega) | (simp (disch := omega) [hj, std, cmpI, cmpB, satB, add64, sub64, ite0, pl0, pl2, pl3, sb0, if_true, if_false, eq_self, iC_len] <;> omega))) | ((refine ob_ok hj ?_; simp only [hj, std, ite0]; exact ok_iC (by omega))) | ((refine upd_none (upd_none (upd_box ?_ (upd_nil _))); exact rfl)) | ((refine r1i ?_; exact i4 (by omega))) | ((refine r1i ?_; exact i5 (by omega) q)) | ((simp (disch := omega) only [hj, std, add64]; first | omega | exact ⟨by omega, by omega, i6 (by omega) (by rw [q]; decide)⟩)))
theorem pc_ContB (l : List Int) (n t r : Nat) (cs ds es : List C) (hl : nI l ≤ 1000000) (hn : n ≤ 1000000) (ht : t ≤ 1000000) :
  PC Try.prog T 59 [.v false [(C.sl (nI l) (iC l))], .clo fnFit [2], .virt (.box [.st (.sl n cs), .st (.sl t ds), .st (.sl r es)])] (ret1 (.st (vB (hasB n t l)))) [.none, .none, .box [.st (.sl n cs), .st (.sl t ds), .st (.sl r es)]] := by
 have hc : (std Try.prog T).pc 81 [.v false [(C.sl (nI l) (iC l))], .clo fnFit [2], .virt (.box [.st (.sl n cs), .st (.sl t ds), .st (.sl r es)])] (ret1 (.st (vI (idxB n t (intsOf (iC l)))))) [.none, .none, .box [.st (.sl n cs), .st (.sl t ds), .st (.sl r es)]] := by
  rw [intsOf_iC]
  exact ⟨enters Try.func81 (by kernel_rfl) (by kernel_rfl), pc_IndexB l n t r cs ds es hl hn ht⟩
 refine pc_of tok Try.func59 rfl (by rfl) ?_
 obtain ⟨j, hj⟩ : ∃ j : J, j = std Try.prog T := ⟨_, rfl⟩
 have hm : Try.prog.follows .mixedOrders = true := by kernel_rfl
 generalize y_intsOf : @intsOf = x_intsOf at *
 generalize y_badI : @badI = x_badI at *
 generalize y_idxB : @idxB = x_idxB at *
 generalize y_hasB : @hasB = x_hasB at *
 generalize y_iC : @iC = x_iC at *
 generalize y_nI : @nI = x_nI at *
 (repeat' first | (refine ⟨.inr rfl, ret_oku hj (by cbv) (by cbv) rfl ?_ ?_ (upd_of ?_)⟩) | ((first | with_reducible refine tr_cut (fun h => ?_) (fun h => ?_) | refine aw_condj (by cbv) (fun h => ?_) (fun h => ?_)) <;> (try simp (disch := omega) only [hj, std, cmpI, cmpB, satB, Bool.not_eq_true, Bool.not_eq_false, decide_eq_true_eq, decide_eq_false_iff_not, beq_iff_eq, bne_iff_ne, bne_eq_false_iff_eq, beq_eq_false_iff_ne, ne_eq, reduceCtorEq, not_true_eq_false, not_false_eq_true, pl0, if_true, cmpS_eq, cmpS_neq, Bool.not_eq_eq_eq_not, Bool.not_true, Bool.not_false, Bool.not_eq_true', add64, sub64] at h) <;> (try (exfalso; omega))) | (with_reducible refine tr_alt (fun h => ?_) ?_ <;> (try (exfalso; omega))) | (with_reducible first | refine tr_ob ?_ ?_ | refine tr_done ?_) | (refine aw_tr hj tok (bookGf x_intsOf x_badI x_idxB x_hasB) (by cbv) ?_) | (refine aw_seq fun K hK => ?_) | (refine aw_tr1 hj tok (bookGf x_intsOf x_badI x_idxB x_hasB) (by cbv) ?_) | (refine aw_skip ?_) | (refine aw_block ?_) | (refine aw_exit ?_) | (refine aw_ret ⟨.inr rfl, ret_okj hj (by cbv) ?_ ?_⟩) | (refine aw_ret ?_) | (with_reducible first | refine th_n ?_ | refine th_r ?_ | refine th_x ?_ | refine blk_n ?_ | refine blk_r ?_ | refine blk_x ?_ | refine blk_y rfl ?_) | (refine ⟨.inr rfl, ret_okj hj (by cbv) ?_ ?_⟩) | (refine ⟨.inl rfl, ret_okj hj (by cbv) ?_ ?_⟩) | (with_reducible apply_assumption -symm -exfalso only [*]))
 all_goals ((try subst y_intsOf); (try subst y_badI); (try subst y_idxB); (try subst y_hasB); (try subst y_iC); (try subst y_nI))
 all_goals (try (repeat' first | with_reducible exact obl0 | with_reducible refine obl1 ?_ ?_))
 all_goals (try first | with_reducible exact True.intro | ((first | refine ob_pc hj ?_ | refine ob_pcn hj ?_); (try rw [hj]); first | exact hc) | ((first | refine ob_le hj ?_ | refine ob_lei hj ?_ | refine ob_inb hj ?_ | refine ob_pos hj ?_ | refine ob_ne0 hj ?_ | refine ob_eqb hj ?_); (first | rfl | first | omega | (simp only [hj, std]; split <;> omega) | (simp (disch := omega) only [hj, std, cmpI, cmpB, satB, add64, sub64, ite0, pl0, pl2, pl3, sb0, if_true, if_false, eq_self] <;> omega) | (simp (disch := omega) [hj, std, cmpI, cmpB, satB, add64, sub64, ite0, pl0, pl2, pl3, sb0, if_true, if_false, eq_self] <;> omega))) | ((refine r1b ?_; rw [intsOf_iC, ← idxB_has, hj]; rfl)) | ((refine upd_none (upd_none (upd_box ?_ (upd_nil _))); exact rfl)))
theorem c_ContB {l : List Int} {m n t r : Nat} {zs cs ds es : List C} (h1 : m = nI l) (h2 : zs = iC l) (hl : nI l ≤ 1000000) (hn : n ≤ 1000000) (ht : t ≤ 1000000) :
  (std Try.prog T).pc 59 [.v false [.sl m zs], .clo fnFit [2], .virt (.box [.st (.sl n cs), .st (.sl t ds), .st (.sl r es)])] (ret1 (.st (vB (hasB n t (intsOf zs))))) [.none, .none, .box [.st (.sl n cs), .st (.sl t ds), .st (.sl r es)]] := by
 subst h1; subst h2
 rw [intsOf_iC]
 exact ⟨enters Try.func59 (by kernel_rfl) (by kernel_rfl), pc_ContB l n t r cs ds es hl hn ht⟩
theorem fit_no1 {n t : Nat} {x : Int} {l : List Int} (h : ¬ (0 ≤ x ∧ x < n ∧ nI l ≤ 64)) : fitR n t (x, l) = false := by unfold fitR; rw [decide_eq_false h]; rfl
theorem fit_yes {n t : Nat} {x : Int} {l : List Int} (h : 0 ≤ x ∧ x < n ∧ nI l ≤ 64) : fitR n t (x, l) = !hasB n t l := by unfold fitR; rw [decide_eq_true h]; rfl
theorem c_fits {ns ts : List ByteArray} {rs : List Rl} {x : Int} {l : List Int} {m : Nat} {zs : List C} (h1 : m = nI l) (h2 : zs = iC l) (hl : nI l ≤ 1000000) (hn : nS ns ≤ 1000000) (ht : nS ts ≤ 1000000) :
  pc 35 [.v true [(C.sl (nS ns) (sC ns)), (C.sl (nS ts) (sC ts)), (C.sl (nR rs) (rC rs))], .v true [vI x, .sl m zs]] (ret1 (.st (vB (fitR (nS ns) (nS ts) (x, intsOf zs))))) := by
 subst h1; subst h2
 refine ⟨enters Try.func35 (by kernel_rfl) (by kernel_rfl), pc_of tok Try.func35 rfl (by rfl) ?_⟩
 rw [intsOf_iC]
 obtain ⟨j, hj⟩ : ∃ j : J, j = std Try.prog T := ⟨_, rfl⟩
 have hm : Try.prog.follows .mixedOrders = true := by kernel_rfl
 generalize y_intsOf : @intsOf = x_intsOf at *
 generalize y_badI : @badI = x_badI at *
 generalize y_idxB : @idxB = x_idxB at *
 generalize y_hasB : @hasB = x_hasB at *
 generalize y_rC : @rC = x_rC at *
 generalize y_nR : @nR = x_nR at *
 generalize y_fitR : @fitR = x_fitR at *
 generalize y_sC : @sC = x_sC at *
 generalize y_iC : @iC = x_iC at *
 generalize y_nS : @nS = x_nS at *
 generalize y_nI : @nI = x_nI at *
 (repeat' first | ((first | with_reducible refine tr_cut (fun h => ?_) (fun h => ?_) | refine aw_condj (by cbv) (fun h => ?_) (fun h => ?_)) <;> (try simp (disch := omega) only [hj, std, cmpI, cmpB, satB, Bool.not_eq_true, Bool.not_eq_false, decide_eq_true_eq, decide_eq_false_iff_not, beq_iff_eq, bne_iff_ne, bne_eq_false_iff_eq, beq_eq_false_iff_ne, ne_eq, reduceCtorEq, not_true_eq_false, not_false_eq_true, pl0, if_true, cmpS_eq, cmpS_neq, Bool.not_eq_eq_eq_not, Bool.not_true, Bool.not_false, Bool.not_eq_true', add64, sub64] at h) <;> (try (exfalso; omega))) | (with_reducible refine tr_alt (fun h => ?_) ?_ <;> (try (exfalso; omega))) | (with_reducible first | refine tr_ob ?_ ?_ | refine tr_done ?_) | (refine aw_tr hj tok (bookGf x_intsOf x_badI x_idxB x_hasB) (by cbv) ?_) | (refine aw_seq fun K hK => ?_) | (refine aw_tr1 hj tok (bookGf x_intsOf x_badI x_idxB x_hasB) (by cbv) ?_) | (refine aw_skip ?_) | (refine aw_block ?_) | (refine aw_exit ?_) | (refine aw_ret ⟨.inr rfl, ret_okj hj (by cbv) ?_ ?_⟩) | (refine aw_ret ?_) | (with_reducible first | refine th_n ?_ | refine th_r ?_ | refine th_x ?_ | refine blk_n ?_ | refine blk_r ?_ | refine blk_x ?_ | refine blk_y rfl ?_) | (refine ⟨.inr rfl, ret_okj hj (by cbv) ?_ ?_⟩) | (refine ⟨.inl rfl, ret_okj hj (by cbv) ?_ ?_⟩) | (with_reducible apply_assumption -symm -exfalso only [*]))
 all_goals ((try subst y_intsOf); (try subst y_badI); (try subst y_idxB); (try subst y_hasB); (try subst y_rC); (try subst y_nR); (try subst y_fitR); (try subst y_sC); (try subst y_iC); (try subst y_nS); (try subst y_nI))
 all_goals (try (repeat' first | with_reducible exact obl0 | with_reducible refine obl1 ?_ ?_))
 all_goals (try first | with_reducible exact True.intro | ((first | refine ob_pc hj ?_ | refine ob_pcn hj ?_); (try rw [hj]); first | exact c_ContB (l := l) rfl rfl hl hn ht) | ((first | refine ob_le hj ?_ | refine ob_lei hj ?_ | refine ob_inb hj ?_ | refine ob_pos hj ?_ | refine ob_ne0 hj ?_ | refine ob_eqb hj ?_); (first | rfl | first | omega | (simp only [hj, std]; split <;> omega) | (simp (disch := omega) only [hj, std, cmpI, cmpB, satB, add64, sub64, ite0, pl0, pl2, pl3, sb0, if_true, if_false, eq_self] <;> omega) | (simp (disch := omega) [hj, std, cmpI, cmpB, satB, add64, sub64, ite0, pl0, pl2, pl3, sb0, if_true, if_false, eq_self] <;> omega))) | ((refine r1b ?_; exact fit_no1 (by omega))) | ((refine r1b ?_; rw [fit_yes (by omega), intsOf_iC, hj]; rfl)))
end Go.Proofs.Ytgimfjmigoibgaa.A
/- Grammars: which may be, by the program. -/
set_option linter.unusedSimpArgs false
set_option linter.unusedVariables false
set_option maxRecDepth 100000
set_option maxHeartbeats 4000000
namespace Go.Proofs.Ytgimfjmigoibgaa.A
open Go
structure Sml (ns ts : List ByteArray) (rs : List Rl) : Prop where
 n : nS ns ≤ 1000000
 t : nS ts ≤ 1000000
 r : nR rs ≤ 1000000
 i : ∀ r ∈ rs, nI r.2 ≤ 1000000
 s : ∀ s ∈ ns, s.size ≤ 1000000
 u : ∀ s ∈ ts, s.size ≤ 1000000
def validG (ns ts : List ByteArray) (rs : List Rl) : Bool :=
 decide (1 ≤ nS ns ∧ nS ns + nS ts ≤ 256 ∧ nR rs ≤ 4096) && (dstS nameI ns && (dstS termI ts && (rs.all (fitR (nS ns) (nS ts)) && ((List.range (nS ns)).all (fun i => rs.any fun r => decide (r.1 = (i : Int))) && !dupR rs))))
theorem validG_iff {ns ts : List ByteArray} {rs : List Rl} : validG ns ts rs = true ↔ (1 ≤ nS ns ∧ nS ns + nS ts ≤ 256 ∧ nR rs ≤ 4096) ∧ dstS nameI ns = true ∧ dstS termI ts = true ∧ (∀ r ∈ rs, fitR (nS ns) (nS ts) r = true) ∧ (∀ i : Nat, i < nS ns → ∃ r ∈ rs, r.1 = (i : Int)) ∧ dupR rs = false := by
 unfold validG
 simp only [Bool.and_eq_true, decide_eq_true_eq, List.all_eq_true, List.mem_range, List.any_eq_true, Bool.not_eq_true']
theorem valid_no {ns ts : List ByteArray} {rs : List Rl} (h : ¬ ((1 ≤ nS ns ∧ nS ns + nS ts ≤ 256 ∧ nR rs ≤ 4096) ∧ dstS nameI ns = true ∧ dstS termI ts = true ∧ (∀ r ∈ rs, fitR (nS ns) (nS ts) r = true) ∧ (∀ i : Nat, i < nS ns → ∃ r ∈ rs, r.1 = (i : Int)) ∧ dupR rs = false)) : validG ns ts rs = false := by
 cases e : validG ns ts rs with
 | false => rfl
 | true => exact absurd (validG_iff.1 e) h
section
variable {ns ts : List ByteArray} {rs : List Rl}
theorem valid_no1 (h : ¬ (1 ≤ nS ns ∧ nS ns + nS ts ≤ 256 ∧ nR rs ≤ 4096)) : validG ns ts rs = false := valid_no fun hh => h hh.1
theorem valid_no2 (h : dstS nameI ns = false) : validG ns ts rs = false := valid_no fun hh => by rw [hh.2.1] at h; cases h
theorem valid_no3 (h : dstS termI ts = false) : validG ns ts rs = false := valid_no fun hh => by rw [hh.2.2.1] at h; cases h
theorem valid_no4 {i : Int} (h0 : 0 ≤ i) (hi : i < nR rs) (h : fitR (nS ns) (nS ts) (rAt rs i.toNat) = false) : validG ns ts rs = false := valid_no fun hh => by rw [hh.2.2.2.1 _ (rAt_mem rs i h0 hi)] at h; cases h
theorem valid_no5 {i : Int} (h0 : 0 ≤ i) (hi : i < nS ns) (h : ∀ r ∈ rs, r.1 ≠ i) : validG ns ts rs = false := valid_no fun hh => by
 obtain ⟨r, hr, e⟩ := hh.2.2.2.2.1 i.toNat (by omega)
 exact h r hr (by omega)
theorem valid_at (h1 : 1 ≤ nS ns ∧ nS ns + nS ts ≤ 256 ∧ nR rs ≤ 4096) (h2 : dstS nameI ns = true) (h3 : dstS termI ts = true) (h4 : ∀ n : Nat, n < nR rs → fitR (nS ns) (nS ts) (rAt rs n) = true) (h5 : ∀ n : Nat, n < nS ns → ∃ r ∈ rs, r.1 = (n : Int)) : validG ns ts rs = !dupR rs := by
 rw [Bool.eq_iff_iff, validG_iff, Bool.not_eq_true']
 exact ⟨fun h => h.2.2.2.2.2, fun h => ⟨h1, h2, h3, fun r hr => by obtain ⟨n, hn, rfl⟩ := mem_rAt hr; exact h4 n hn, h5, h⟩⟩
end
def bookGv (x_intsOf : List C → List Int) (x_rlsOf : List C → List Rl) (x_dupR : List Rl → Bool) (x_dstS : (ByteArray → Bool) → List ByteArray → Bool) (x_ofR : List Rl → Int → List Int) (x_fitR : Nat → Nat → Rl → Bool) (x_iC : List Int → List C) (x_nI : List Int → Nat) (x_strsOf : List C → List ByteArray) (x_nameI : ByteArray → Bool) (x_termI : ByteArray → Bool) : Book := fun f xs => match f, xs with
 | 32, [.v false [.sl _ cs], .fn 33] => some (ret1 (.st (vB (x_dstS x_nameI (x_strsOf cs)))))
 | 32, [.v false [.sl _ cs], .fn 34] => some (ret1 (.st (vB (x_dstS x_termI (x_strsOf cs)))))
 | 35, [.v true [.sl n _, .sl t _, .sl _ _], .v true [.val (.int .i64 x), .sl _ zs]] => some (ret1 (.st (vB (x_fitR n t (x, x_intsOf zs)))))
 | 18, [.v true [.sl _ _, .sl _ _, .sl _ cs], .v false [.val (.int .i64 a)]] => some (ret1 (.own intT (x_nI (x_ofR (x_rlsOf cs) a)) (x_iC (x_ofR (x_rlsOf cs) a))))
 | 36, [.v false [.sl _ cs]] => some (ret1 (.st (vB (x_dupR (x_rlsOf cs)))))
 | _, _ => none
theorem c_dstN {l : List ByteArray} (hl : nS l ≤ 1000000) (hs : ∀ s ∈ l, s.size ≤ 1000000) : pc 32 [.v false [(C.sl (nS l) (sC l))], .fn 33] (ret1 (.st (vB (dstS nameI (strsOf (sC l)))))) := by
 rw [strsOf_sC]
 exact ⟨enters Try.func32 (by kernel_rfl) (by kernel_rfl), pc_distinct l _ nameI hl fun s h => c_IsName (hs s h)⟩
theorem c_dstT {l : List ByteArray} (hl : nS l ≤ 1000000) (hs : ∀ s ∈ l, s.size ≤ 1000000) : pc 32 [.v false [(C.sl (nS l) (sC l))], .fn 34] (ret1 (.st (vB (dstS termI (strsOf (sC l)))))) := by
 rw [strsOf_sC]
 exact ⟨enters Try.func32 (by kernel_rfl) (by kernel_rfl), pc_distinct l _ termI hl fun s h => c_IsTerm (hs s h)⟩
theorem c_OfG {ns ts : List ByteArray} {rs : List Rl} {a : Int} (h : nR rs ≤ 1000000) : pc 18 [.v true [(C.sl (nS ns) (sC ns)), (C.sl (nS ts) (sC ts)), (C.sl (nR rs) (rC rs))], .v false [vI a]] (ret1 (.own intT (nI (ofR (rlsOf (rC rs)) a)) (iC (ofR (rlsOf (rC rs)) a)))) := by
 rw [rlsOf_rC]
 exact ⟨enters Try.func18 (by kernel_rfl) (by kernel_rfl), pc_Of ns ts rs a h⟩
theorem c_twG {rs : List Rl} (h : nR rs ≤ 1000000) (hr : ∀ r ∈ rs, nI r.2 ≤ 1000000) : pc 36 [.v false [(C.sl (nR rs) (rC rs))]] (ret1 (.st (vB (dupR (rlsOf (rC rs)))))) := by
 rw [rlsOf_rC]
 exact ⟨enters Try.func36 (by kernel_rfl) (by kernel_rfl), pc_twiceG rs h fun r hh => by have := hr r hh; omega⟩
theorem ofR_len0 {rs : List Rl} {a : Int} : (nI (ofR rs a) : Int) = 0 ↔ ∀ r ∈ rs, r.1 ≠ a := by
 rw [nI_eq]
 unfold ofR
 rw [← ofGo_nil rs 0]
 simp
theorem pc_ValidG (ns ts : List ByteArray) (rs : List Rl) (hS : Sml ns ts rs) : PC Try.prog T 15 [.v true [(C.sl (nS ns) (sC ns)), (C.sl (nS ts) (sC ts)), (C.sl (nR rs) (rC rs))]] (ret1 (.st (vB (validG ns ts rs)))) [] := by
 have ha := hS.n; have hb := hS.t; have hc := hS.r
 refine pc_of tok Try.func15 rfl (by rfl) ?_
 obtain ⟨j, hj⟩ : ∃ j : J, j = std Try.prog T := ⟨_, rfl⟩
 have hm : Try.prog.follows .mixedOrders = true := by kernel_rfl
 generalize y_intsOf : @intsOf = x_intsOf at *
 generalize y_rlsOf : @rlsOf = x_rlsOf at *
 generalize y_dupR : @dupR = x_dupR at *
 generalize y_dstS : @dstS = x_dstS at *
 generalize y_ofR : @ofR = x_ofR at *
 generalize y_fitR : @fitR = x_fitR at *
 generalize y_iC : @iC = x_iC at *
 generalize y_nI : @nI = x_nI at *
 generalize y_strsOf : @strsOf = x_strsOf at *
 generalize y_nameI : @nameI = x_nameI at *
 generalize y_termI : @termI = x_termI at *
 generalize y_rC : @rC = x_rC at *
 generalize y_nR : @nR = x_nR at *
 generalize y_validG : @validG = x_validG at *
 generalize y_sC : @sC = x_sC at *
 generalize y_nS : @nS = x_nS at *
 (repeat' first | ((first | with_reducible refine tr_cut (fun h => ?_) (fun h => ?_) | refine aw_condj (by cbv) (fun h => ?_) (fun h => ?_)) <;> (try simp (disch := omega) only [hj, std, cmpI, cmpB, satB, Bool.not_eq_true, Bool.not_eq_false, decide_eq_true_eq, decide_eq_false_iff_not, beq_iff_eq, bne_iff_ne, bne_eq_false_iff_eq, beq_eq_false_iff_ne, ne_eq, reduceCtorEq, not_true_eq_false, not_false_eq_true, pl0, if_true, cmpS_eq, cmpS_neq, Bool.not_eq_eq_eq_not, Bool.not_true, Bool.not_false, Bool.not_eq_true', add64, sub64] at h) <;> (try (exfalso; omega))) | (with_reducible refine tr_alt (fun h => ?_) ?_ <;> (try (exfalso; omega))) | (with_reducible first | refine tr_ob ?_ ?_ | refine tr_done ?_) | (refine aw_tr hj tok (bookGv x_intsOf x_rlsOf x_dupR x_dstS x_ofR x_fitR x_iC x_nI x_strsOf x_nameI x_termI) (by cbv) ?_) | (refine aw_seq fun K hK => ?_) | (refine aw_tr1 hj tok (bookGv x_intsOf x_rlsOf x_dupR x_dstS x_ofR x_fitR x_iC x_nI x_strsOf x_nameI x_termI) (by cbv) ?_) | (refine aw_skip ?_) | (refine aw_block ?_) | (refine aw_exit ?_) | (refine aw_ret ⟨.inr rfl, ret_okj hj (by cbv) ?_ ?_⟩) | (refine aw_ret ?_) | (with_reducible first | refine th_n ?_ | refine th_r ?_ | refine th_x ?_ | refine blk_n ?_ | refine blk_r ?_ | refine blk_x ?_ | refine blk_y rfl ?_) | (refine ⟨.inr rfl, ret_okj hj (by cbv) ?_ ?_⟩) | (refine ⟨.inl rfl, ret_okj hj (by cbv) ?_ ?_⟩) | (with_reducible refine ⟨_, by cbv, ?_, ?_⟩) | (with_reducible apply_assumption -symm -exfalso only [*]))
 all_goals ((try subst y_intsOf); (try subst y_rlsOf); (try subst y_dupR); (try subst y_dstS); (try subst y_ofR); (try subst y_fitR); (try subst y_iC); (try subst y_nI); (try subst y_strsOf); (try subst y_nameI); (try subst y_termI); (try subst y_rC); (try subst y_nR); (try subst y_validG); (try subst y_sC); (try subst y_nS))
 all_goals (try have q1 := ‹dstS nameI _ = true›)
 all_goals (try have q1 := ‹dstS nameI _ = false›)
 all_goals (try rw [strsOf_sC] at q1)
 all_goals (try have q2 := ‹dstS termI _ = true›)
 all_goals (try have q2 := ‹dstS termI _ = false›)
 all_goals (try rw [strsOf_sC] at q2)
 all_goals (try (repeat' first | with_reducible exact obl0 | (with_reducible refine obl1 ?_ ?_)))
 all_goals (try first | with_reducible exact True.intro | ((first | refine ob_pc hj ?_ | refine ob_pcn hj ?_); (try rw [hj]); first | exact c_dstN ha hS.s | exact c_dstT hb hS.u) | ((first | refine ob_le hj ?_ | refine ob_lei hj ?_ | refine ob_inb hj ?_ | refine ob_pos hj ?_ | refine ob_ne0 hj ?_ | refine ob_eqb hj ?_); (first | rfl | first | omega | (simp only [hj, std]; split <;> omega) | (simp (disch := omega) only [hj, std, cmpI, cmpB, satB, add64, sub64, ite0, pl0, pl2, pl3, sb0, if_true, if_false, eq_self] <;> omega) | (simp (disch := omega) [hj, std, cmpI, cmpB, satB, add64, sub64, ite0, pl0, pl2, pl3, sb0, if_true, if_false, eq_self] <;> omega))) | ((refine r1b ?_; exact valid_no1 (by omega))) | ((refine r1b ?_; exact valid_no2 q1)) | ((refine r1b ?_; exact valid_no3 q2)))
 refine aw_lpj hj [(1, .keep), (37, .keep), (38, .keep), (39, .keep)] [1] (fun (i : Int) => stOf 64 [(1, .one (.ptr 1 0)), (37, .one (.c ((C.sl (nR rs) (rC rs))))), (38, .one (.c (vI (j.ofNat (nR rs))))), (39, .one (.c (vI i)))] [(1, .box [.st ((C.sl (nS ns) (sC ns))), .st ((C.sl (nS ts) (sC ts))), .st ((C.sl (nR rs) (rC rs)))])]) (fun (i : Int) => nR rs - i.toNat) (fun (i : Int) => 0 ≤ i ∧ i ≤ nR rs ∧ ∀ n : Nat, (n : Int) < i → fitR (nS ns) (nS ts) (rAt rs n) = true) (0) (by generalize @intsOf = x_intsOf; generalize @rlsOf = x_rlsOf; generalize @dupR = x_dupR; generalize @dstS = x_dstS; generalize @ofR = x_ofR; generalize @fitR = x_fitR; generalize @iC = x_iC; generalize @nI = x_nI; generalize @strsOf = x_strsOf; generalize @nameI = x_nameI; generalize @termI = x_termI; generalize @rC = x_rC; generalize @nR = x_nR; generalize @validG = x_validG; generalize @sC = x_sC; generalize @nS = x_nS; cbv) ?_ (fun i hI => ?_)
 ·exact ⟨by omega, by omega, fun n h => by omega⟩
 obtain ⟨i1, i2, i3⟩ := hI
 have nr := nR_eq rs
 generalize y_intsOf : @intsOf = x_intsOf at *
 generalize y_rlsOf : @rlsOf = x_rlsOf at *
 generalize y_dupR : @dupR = x_dupR at *
 generalize y_dstS : @dstS = x_dstS at *
 generalize y_ofR : @ofR = x_ofR at *
 generalize y_fitR : @fitR = x_fitR at *
 generalize y_iC : @iC = x_iC at *
 generalize y_nI : @nI = x_nI at *
 generalize y_strsOf : @strsOf = x_strsOf at *
 generalize y_nameI : @nameI = x_nameI at *
 generalize y_termI : @termI = x_termI at *
 generalize y_rC : @rC = x_rC at *
 generalize y_nR : @nR = x_nR at *
 generalize y_validG : @validG = x_validG at *
 generalize y_sC : @sC = x_sC at *
 generalize y_nS : @nS = x_nS at *
 (repeat' first | ((first | with_reducible refine tr_cut (fun h => ?_) (fun h => ?_) | refine aw_condj (by cbv) (fun h => ?_) (fun h => ?_)) <;> (try simp (disch := omega) only [hj, std, cmpI, cmpB, satB, Bool.not_eq_true, Bool.not_eq_false, decide_eq_true_eq, decide_eq_false_iff_not, beq_iff_eq, bne_iff_ne, bne_eq_false_iff_eq, beq_eq_false_iff_ne, ne_eq, reduceCtorEq, not_true_eq_false, not_false_eq_true, pl0, if_true, cmpS_eq, cmpS_neq, Bool.not_eq_eq_eq_not, Bool.not_true, Bool.not_false, Bool.not_eq_true', add64, sub64] at h) <;> (try (exfalso; omega))) | (with_reducible refine tr_alt (fun h => ?_) ?_ <;> (try (exfalso; omega))) | (with_reducible first | refine tr_ob ?_ ?_ | refine tr_done ?_) | (refine aw_tr hj tok (bookGv x_intsOf x_rlsOf x_dupR x_dstS x_ofR x_fitR x_iC x_nI x_strsOf x_nameI x_termI) (by cbv) ?_) | (refine aw_seq fun K hK => ?_) | (refine aw_tr1 hj tok (bookGv x_intsOf x_rlsOf x_dupR x_dstS x_ofR x_fitR x_iC x_nI x_strsOf x_nameI x_termI) (by cbv) ?_) | (refine aw_skip ?_) | (refine aw_block ?_) | (refine aw_exit ?_) | (refine aw_ret ⟨.inr rfl, ret_okj hj (by cbv) ?_ ?_⟩) | (refine aw_ret ?_) | (with_reducible first | refine th_n ?_ | refine th_r ?_ | refine th_x ?_ | refine blk_n ?_ | refine blk_r ?_ | refine blk_x ?_ | refine blk_y rfl ?_) | (refine ⟨.inr rfl, ret_okj hj (by cbv) ?_ ?_⟩) | (refine ⟨.inl rfl, ret_okj hj (by cbv) ?_ ?_⟩) | (with_reducible refine ⟨_, by cbv, ?_, ?_⟩) | (with_reducible apply_assumption -symm -exfalso only [*]))
 all_goals ((try subst y_intsOf); (try subst y_rlsOf); (try subst y_dupR); (try subst y_dstS); (try subst y_ofR); (try subst y_fitR); (try subst y_iC); (try subst y_nI); (try subst y_strsOf); (try subst y_nameI); (try subst y_termI); (try subst y_rC); (try subst y_nR); (try subst y_validG); (try subst y_sC); (try subst y_nS))
 all_goals (try have q := ‹fitR _ _ _ = true›)
 all_goals (try have q := ‹fitR _ _ _ = false›)
 all_goals (try simp only [gi_rC, gc_rC, intsOf_iC] at q)
 all_goals (try (repeat' first | with_reducible exact obl0 | (with_reducible refine obl1 ?_ ?_)))
 all_goals (try first | with_reducible exact True.intro | ((first | refine ob_pc hj ?_ | refine ob_pcn hj ?_); (try rw [hj]); first | exact c_fits (l := (rAt rs i.toNat).2) (gn_rC _ _) (gc_rC _ _) (hS.i _ (rAt_mem rs i i1 (by omega))) ha hb) | ((first | refine ob_le hj ?_ | refine ob_lei hj ?_ | refine ob_inb hj ?_ | refine ob_pos hj ?_ | refine ob_ne0 hj ?_ | refine ob_eqb hj ?_); (first | rfl | first | omega | (simp only [hj, std]; split <;> omega) | (simp (disch := omega) only [hj, std, cmpI, cmpB, satB, add64, sub64, ite0, pl0, pl2, pl3, sb0, if_true, if_false, eq_self, rC_len] <;> omega) | (simp (disch := omega) [hj, std, cmpI, cmpB, satB, add64, sub64, ite0, pl0, pl2, pl3, sb0, if_true, if_false, eq_self, rC_len] <;> omega))) | ((refine ob_ok hj ?_; simp only [hj, std, ite0]; first | exact ok_rC1 (by omega) | exact ok_rC0 (by omega))) | ((refine r1b ?_; exact valid_no4 i1 (by omega) q)) | ((simp (disch := omega) only [hj, std, add64]; first | omega | (refine ⟨by omega, by omega, fun n hn => ?_⟩; by_cases e : (n : Int) < i; exact i3 n e; obtain rfl : n = i.toNat := (by omega); exact q))))
 refine aw_lpj hj [(1, .keep), (50, .keep), (51, .keep)] [1] (fun (k : Int) => stOf 64 [(1, .one (.ptr 1 0)), (50, .one (.c (vI (j.ofNat (nS ns))))), (51, .one (.c (vI k)))] [(1, .box [.st ((C.sl (nS ns) (sC ns))), .st ((C.sl (nS ts) (sC ts))), .st ((C.sl (nR rs) (rC rs)))])]) (fun (k : Int) => nS ns - k.toNat) (fun (k : Int) => 0 ≤ k ∧ k ≤ nS ns ∧ ∀ n : Nat, (n : Int) < k → ∃ r ∈ rs, r.1 = (n : Int)) (0) (by generalize @intsOf = x_intsOf; generalize @rlsOf = x_rlsOf; generalize @dupR = x_dupR; generalize @dstS = x_dstS; generalize @ofR = x_ofR; generalize @fitR = x_fitR; generalize @iC = x_iC; generalize @nI = x_nI; generalize @strsOf = x_strsOf; generalize @nameI = x_nameI; generalize @termI = x_termI; generalize @rC = x_rC; generalize @nR = x_nR; generalize @validG = x_validG; generalize @sC = x_sC; generalize @nS = x_nS; cbv) ?_ (fun k hI => ?_)
 ·exact ⟨by omega, by omega, fun n h => by omega⟩
 obtain ⟨k1, k2, k3⟩ := hI
 generalize y_intsOf : @intsOf = x_intsOf at *
 generalize y_rlsOf : @rlsOf = x_rlsOf at *
 generalize y_dupR : @dupR = x_dupR at *
 generalize y_dstS : @dstS = x_dstS at *
 generalize y_ofR : @ofR = x_ofR at *
 generalize y_fitR : @fitR = x_fitR at *
 generalize y_iC : @iC = x_iC at *
 generalize y_nI : @nI = x_nI at *
 generalize y_strsOf : @strsOf = x_strsOf at *
 generalize y_nameI : @nameI = x_nameI at *
 generalize y_termI : @termI = x_termI at *
 generalize y_rC : @rC = x_rC at *
 generalize y_nR : @nR = x_nR at *
 generalize y_validG : @validG = x_validG at *
 generalize y_sC : @sC = x_sC at *
 generalize y_nS : @nS = x_nS at *
 (repeat' first | ((first | with_reducible refine tr_cut (fun h => ?_) (fun h => ?_) | refine aw_condj (by cbv) (fun h => ?_) (fun h => ?_)) <;> (try simp (disch := omega) only [hj, std, cmpI, cmpB, satB, Bool.not_eq_true, Bool.not_eq_false, decide_eq_true_eq, decide_eq_false_iff_not, beq_iff_eq, bne_iff_ne, bne_eq_false_iff_eq, beq_eq_false_iff_ne, ne_eq, reduceCtorEq, not_true_eq_false, not_false_eq_true, pl0, if_true, cmpS_eq, cmpS_neq, Bool.not_eq_eq_eq_not, Bool.not_true, Bool.not_false, Bool.not_eq_true', add64, sub64] at h) <;> (try (exfalso; omega))) | (with_reducible refine tr_alt (fun h => ?_) ?_ <;> (try (exfalso; omega))) | (with_reducible first | refine tr_ob ?_ ?_ | refine tr_done ?_) | (refine aw_tr hj tok (bookGv x_intsOf x_rlsOf x_dupR x_dstS x_ofR x_fitR x_iC x_nI x_strsOf x_nameI x_termI) (by cbv) ?_) | (refine aw_seq fun K hK => ?_) | (refine aw_tr1 hj tok (bookGv x_intsOf x_rlsOf x_dupR x_dstS x_ofR x_fitR x_iC x_nI x_strsOf x_nameI x_termI) (by cbv) ?_) | (refine aw_skip ?_) | (refine aw_block ?_) | (refine aw_exit ?_) | (refine aw_ret ⟨.inr rfl, ret_okj hj (by cbv) ?_ ?_⟩) | (refine aw_ret ?_) | (with_reducible first | refine th_n ?_ | refine th_r ?_ | refine th_x ?_ | refine blk_n ?_ | refine blk_r ?_ | refine blk_x ?_ | refine blk_y rfl ?_) | (refine ⟨.inr rfl, ret_okj hj (by cbv) ?_ ?_⟩) | (refine ⟨.inl rfl, ret_okj hj (by cbv) ?_ ?_⟩) | (with_reducible refine ⟨_, by cbv, ?_, ?_⟩) | (with_reducible apply_assumption -symm -exfalso only [*]))
 all_goals ((try subst y_intsOf); (try subst y_rlsOf); (try subst y_dupR); (try subst y_dstS); (try subst y_ofR); (try subst y_fitR); (try subst y_iC); (try subst y_nI); (try subst y_strsOf); (try subst y_nameI); (try subst y_termI); (try subst y_rC); (try subst y_nR); (try subst y_validG); (try subst y_sC); (try subst y_nS))
 all_goals (try have q := ‹((nI (ofR _ _) : Nat) : Int) = 0›)
 all_goals (try have q := ‹¬ ((nI (ofR _ _) : Nat) : Int) = 0›)
 all_goals (try rw [rlsOf_rC, ofR_len0] at q)
 all_goals (try (repeat' first | with_reducible exact obl0 | with_reducible refine obl1 ?_ ?_))
 all_goals (try first | with_reducible exact True.intro | ((first | refine ob_pc hj ?_ | refine ob_pcn hj ?_); (try rw [hj]); first | exact c_OfG hc | exact c_twG hc hS.i) | ((first | refine ob_le hj ?_ | refine ob_lei hj ?_ | refine ob_inb hj ?_ | refine ob_pos hj ?_ | refine ob_ne0 hj ?_ | refine ob_eqb hj ?_); (first | rfl | first | omega | (simp only [hj, std]; split <;> omega) | (simp (disch := omega) only [hj, std, cmpI, cmpB, satB, add64, sub64, ite0, pl0, pl2, pl3, sb0, if_true, if_false, eq_self, rC_len] <;> omega) | (simp (disch := omega) [hj, std, cmpI, cmpB, satB, add64, sub64, ite0, pl0, pl2, pl3, sb0, if_true, if_false, eq_self, rC_len] <;> omega))) | ((refine r1b ?_; exact valid_no5 k1 (by omega) q)) | ((refine r1b ?_; rw [valid_at (by omega) q1 q2 (fun n hn => i3 n (by omega)) (fun n hn => k3 n (by omega)), rlsOf_rC, hj]; rfl)) | ((refine ob_vals hj ?_; exact iC_vals _)) | ((simp (disch := omega) only [hj, std, add64]; first | omega | (refine ⟨by omega, by omega, fun n hn => ?_⟩; by_cases e : (n : Int) < k; exact k3 n e; obtain rfl : n = k.toNat := (by omega); by_cases hh : ∃ r ∈ rs, r.1 = ((k.toNat : Nat) : Int); exact hh; exact absurd (fun r hr e => hh ⟨r, hr, by omega⟩) q))))
end Go.Proofs.Ytgimfjmigoibgaa.A
/- Grammars of rules: are they too many? -/
set_option linter.unusedSimpArgs false
set_option linter.unusedVariables false
set_option maxRecDepth 100000
set_option maxHeartbeats 4000000
namespace Go.Proofs.Ytgimfjmigoibgaa.A
open Go
def altsN (L : List Ln) : Nat := (L.map fun x => x.2.length).sum
def greatG (L : List Ln) : Bool := L.any (fun x => x.2.any fun a => decide (64 < a.length)) || decide (4096 < altsN L) || decide (256 < L.length)
theorem great_long {L : List Ln} {i k : Nat} (hi : i < L.length) (hk : k < (lAt L i).2.length) (h : 64 < (aAt (lAt L i).2 k).length) : greatG L = true := by
 unfold greatG
 rw [Bool.or_eq_true, Bool.or_eq_true]
 exact .inl (.inl (List.any_eq_true.2 ⟨_, lAt_mem hi, List.any_eq_true.2 ⟨_, aAt_mem hk, decide_eq_true h⟩⟩))
theorem great_end {L : List Ln} (h : ∀ i, i < L.length → ∀ k, k < (lAt L i).2.length → (aAt (lAt L i).2 k).length ≤ 64) : greatG L = (decide (4096 < altsN L) || decide (256 < L.length)) := by
 have e : (L.any fun x => x.2.any fun a => decide (64 < a.length)) = false := by
  rw [List.any_eq_false]
  intro x hx
  obtain ⟨i, hi, rfl⟩ := List.mem_iff_getElem.1 hx
  rw [Bool.not_eq_true, List.any_eq_false]
  intro a ha
  obtain ⟨k, hk, rfl⟩ := List.mem_iff_getElem.1 ha
  have e1 : lAt L i = L[i] := by rw [lAt, List.getD_eq_getElem?_getD, List.getElem?_eq_getElem hi]; rfl
  have := h i hi k (by rw [e1]; exact hk)
  rw [e1] at this
  have e2 : aAt L[i].2 k = L[i].2[k] := by rw [aAt, List.getD_eq_getElem?_getD, List.getElem?_eq_getElem hk]; rfl
  rw [e2] at this
  simpa using this
 unfold greatG; rw [e, Bool.false_or]
theorem altsN_take {L : List Ln} {i : Nat} (h : i < L.length) : altsN (L.take (i + 1)) = altsN (L.take i) + (lAt L i).2.length := by
 unfold altsN
 rw [List.take_succ_eq_append_getElem h, List.map_append, List.sum_append]
 simp [lAt, List.getD_eq_getElem?_getD, List.getElem?_eq_getElem h]
theorem altsN_le {L : List Ln} {m : Nat} (h : ∀ x ∈ L, x.2.length ≤ m) : altsN L ≤ L.length * m := by
 unfold altsN
 induction L with
 | nil => simp
 | cons x L ih =>
  rw [List.map_cons, List.sum_cons, List.length_cons, Nat.succ_mul]
  have := ih fun y hy => h y (List.mem_cons_of_mem _ hy)
  have := h x (List.mem_cons_self ..)
  omega
theorem altsN_take_le {L : List Ln} {m i : Nat} (h : ∀ x ∈ L, x.2.length ≤ m) (hL : L.length ≤ 1000000) (hm : m ≤ 1000000) : altsN (L.take i) ≤ 1000000000000 := by
 have h1 := altsN_le (L := L.take i) (m := m) fun x hx => h x (List.mem_of_mem_take hx)
 have h2 : (L.take i).length ≤ 1000000 := by rw [List.length_take]; omega
 have := Nat.mul_le_mul h2 hm
 omega
theorem pc_great (L : List Ln) (cs : List C) (hr : LnRep L cs) (hs : rSz L 1000000) : PC Try.prog T 37 [.v false [.sl L.length cs]] (ret1 (.st (vB (greatG L)))) [] := by
 have hn := hs.1
 have hl := hr.1
 have hlong := @great_long L
 have hend := @great_end L
 have hT := fun i : Nat => @altsN_take L i
 have hB := fun i : Nat => altsN_take_le (L := L) (m := 1000000) (i := i) (fun x hx => (hs.2 x hx).1) hn (by omega)
 have hz : altsN (L.take L.length) = altsN L := by rw [List.take_length]
 have a1 := fun (i : Nat) (h : i < L.length) => hr.2 i h
 have a3 := fun (i : Nat) (h : i < L.length) => hs.2 _ (lAt_mem (L := L) (i := i) h)
 generalize hm1 : L.length = n at *
 refine pc_of tok Try.func37 rfl (by rfl) ?_
 obtain ⟨j, hj⟩ : ∃ j : J, j = std Try.prog T := ⟨_, rfl⟩
 have hm : Try.prog.follows .mixedOrders = true := by kernel_rfl
 generalize y_greatG : @greatG = x_greatG at *
 (repeat' first | ((first | with_reducible refine tr_cut (fun h => ?_) (fun h => ?_) | refine aw_condj (by cbv) (fun h => ?_) (fun h => ?_)) <;> (try simp (disch := omega) only [hj, std, cmpI, cmpB, satB, Bool.not_eq_true, Bool.not_eq_false, decide_eq_true_eq, decide_eq_false_iff_not, beq_iff_eq, bne_iff_ne, bne_eq_false_iff_eq, beq_eq_false_iff_ne, ne_eq, reduceCtorEq, not_true_eq_false, not_false_eq_true, pl0, if_true, cmpS_eq, cmpS_neq, Bool.not_eq_eq_eq_not, Bool.not_true, Bool.not_false, Bool.not_eq_true', add64, sub64] at h) <;> (try (exfalso; omega))) | (with_reducible refine tr_alt (fun h => ?_) ?_ <;> (try (exfalso; omega))) | (with_reducible first | refine tr_ob ?_ ?_ | refine tr_done ?_) | (refine aw_tr hj tok book0 (by cbv) ?_) | (refine aw_seq fun K hK => ?_) | (refine aw_tr1 hj tok book0 (by cbv) ?_) | (refine aw_skip ?_) | (refine aw_block ?_) | (refine aw_exit ?_) | (refine aw_ret ⟨.inr rfl, ret_okj hj (by cbv) ?_ ?_⟩) | (refine aw_ret ?_) | (with_reducible first | refine th_n ?_ | refine th_r ?_ | refine th_x ?_ | refine blk_n ?_ | refine blk_r ?_ | refine blk_x ?_ | refine blk_y rfl ?_) | (refine ⟨.inr rfl, ret_okj hj (by cbv) ?_ ?_⟩) | (refine ⟨.inl rfl, ret_okj hj (by cbv) ?_ ?_⟩) | (with_reducible first | refine ⟨(_, _, _, _, _), by cbv, ?_, ?_⟩ | refine ⟨(_, _), by cbv, ?_, ?_⟩ | refine ⟨_, by cbv, ?_, ?_⟩) | (with_reducible apply_assumption -symm -exfalso only [*]))
 all_goals ((try subst y_greatG))
 all_goals (try (repeat' first | with_reducible exact obl0 | (with_reducible refine obl1 ?_ ?_)))
 all_goals (try first | with_reducible exact True.intro | ((first | refine ob_le hj ?_ | refine ob_lei hj ?_ | refine ob_inb hj ?_ | refine ob_pos hj ?_ | refine ob_ne0 hj ?_ | refine ob_eqb hj ?_); (first | rfl | first | omega | (simp only [hj, std]; split <;> omega) | (simp (disch := omega) only [hj, std, cmpI, cmpB, satB, add64, sub64, ite0, pl0, pl2, pl3, sb0, if_true, if_false, eq_self] <;> omega) | (simp (disch := omega) [hj, std, cmpI, cmpB, satB, add64, sub64, ite0, pl0, pl2, pl3, sb0, if_true, if_false, eq_self] <;> omega))))
 refine aw_lpj hj [(0, .keep), (3, .keep), (8, .keep), (9, .keep), (10, .keep)] [] (fun (⟨i, m⟩ : Int × Int) => stOf 38 [(0, .one (.c (.sl n cs))), (3, .one (.c (vI m))), (8, .one (.c (.sl n cs))), (9, .one (.c (vI (j.ofNat n)))), (10, .one (.c (vI i)))] []) (fun (⟨i, m⟩ : Int × Int) => n - i.toNat) (fun (⟨i, m⟩ : Int × Int) => 0 ≤ i ∧ i ≤ n ∧ m = (altsN (L.take i.toNat) : Int) ∧ ∀ a : Nat, (a : Int) < i → ∀ k, k < (lAt L a).2.length → (aAt (lAt L a).2 k).length ≤ 64) ((_, _)) (by generalize @greatG = x_greatG; cbv) ?_ (fun ⟨i, m⟩ hI => ?_)
 ·exact ⟨by omega, by omega, by simp [altsN], fun a h => by omega⟩
 obtain ⟨i1, i2, i3, i4⟩ := hI
 have hBi := hB i.toNat
 rcases Decidable.em (i < (n : Int)) with hi | hi
 ·obtain ⟨b1, b2, b3, b4⟩ := a1 i.toNat (by omega)
  obtain ⟨hA, hAB⟩ := a3 i.toNat (by omega)
  have hTi := hT i.toNat (by omega)
  have hB2 := hB (i.toNat + 1)
  have hlo := fun k => @hlong i.toNat k (by omega)
  have hA0 : ∀ k, k < (lAt L i.toNat).2.length → aAt (lAt L i.toNat).2 k ∈ (lAt L i.toNat).2 := fun k h => aAt_mem h
  generalize hA' : (lAt L i.toNat).2 = A at *
  have e3 : gn (cellAt cs (i.toNat * 2 + 1)) = A.length := b3
  generalize hds : gc (cellAt cs (i.toNat * 2 + 1)) = ds at *
  obtain ⟨l1, l2⟩ := b4
  generalize y_greatG : @greatG = x_greatG at *
  (repeat' first | ((first | with_reducible refine tr_cut (fun h => ?_) (fun h => ?_) | refine aw_condj (by cbv) (fun h => ?_) (fun h => ?_)) <;> (try simp (disch := omega) only [hj, std, cmpI, cmpB, satB, Bool.not_eq_true, Bool.not_eq_false, decide_eq_true_eq, decide_eq_false_iff_not, beq_iff_eq, bne_iff_ne, bne_eq_false_iff_eq, beq_eq_false_iff_ne, ne_eq, reduceCtorEq, not_true_eq_false, not_false_eq_true, pl0, if_true, cmpS_eq, cmpS_neq, Bool.not_eq_eq_eq_not, Bool.not_true, Bool.not_false, Bool.not_eq_true', e3, hds, ite0, add64, sub64] at h) <;> (try (exfalso; omega))) | (with_reducible refine tr_alt (fun h => ?_) ?_ <;> (try (exfalso; omega))) | (with_reducible first | refine tr_ob ?_ ?_ | refine tr_done ?_) | (refine aw_tr hj tok book0 (by cbv) ?_) | (refine aw_seq fun K hK => ?_) | (refine aw_tr1 hj tok book0 (by cbv) ?_) | (refine aw_skip ?_) | (refine aw_block ?_) | (refine aw_exit ?_) | (refine aw_ret ⟨.inr rfl, ret_okj hj (by cbv) ?_ ?_⟩) | (refine aw_ret ?_) | (with_reducible first | refine th_n ?_ | refine th_r ?_ | refine th_x ?_ | refine blk_n ?_ | refine blk_r ?_ | refine blk_x ?_ | refine blk_y rfl ?_) | (refine ⟨.inr rfl, ret_okj hj (by cbv) ?_ ?_⟩) | (refine ⟨.inl rfl, ret_okj hj (by cbv) ?_ ?_⟩) | (with_reducible first | refine ⟨(_, _, _, _, _), by cbv, ?_, ?_⟩ | refine ⟨(_, _), by cbv, ?_, ?_⟩ | refine ⟨_, by cbv, ?_, ?_⟩) | (with_reducible apply_assumption -symm -exfalso only [*]))
  all_goals ((try subst y_greatG))
  all_goals (try (repeat' first | with_reducible exact obl0 | (with_reducible refine obl1 ?_ ?_)))
  all_goals (try first | with_reducible exact True.intro | ((first | refine ob_le hj ?_ | refine ob_lei hj ?_ | refine ob_inb hj ?_ | refine ob_pos hj ?_ | refine ob_ne0 hj ?_ | refine ob_eqb hj ?_); (first | rfl | first | omega | (simp only [hj, std]; split <;> omega) | (simp (disch := omega) only [hj, std, cmpI, cmpB, satB, add64, sub64, ite0, pl0, pl2, pl3, sb0, if_true, if_false, eq_self, hl] <;> omega) | (simp (disch := omega) [hj, std, cmpI, cmpB, satB, add64, sub64, ite0, pl0, pl2, pl3, sb0, if_true, if_false, eq_self, hl] <;> omega))) | ((refine ob_ok hj ?_; simp only [hj, std, ite0, b1]; first | exact ⟨_, rfl⟩ | exact b2)))
  refine aw_lpj hj [(0, .keep), (3, .keep), (8, .keep), (9, .keep), (10, .keep), (20, .keep), (21, .keep), (22, .keep)] [] (fun (⟨k, m2, u2, c2, v2⟩ : Int × Int × Nat × (List C) × Int) => stOf 38 [(0, .one (.c (.sl n cs))), (3, .one (.c (vI m2))), (8, .one (.c (.sl n cs))), (9, .one (.c (vI (j.ofNat n)))), (10, .one (.c (vI i))), (20, .one (.c (.sl u2 c2))), (21, .one (.c (vI v2))), (22, .one (.c (vI k)))] []) (fun (⟨k, m2, u2, c2, v2⟩ : Int × Int × Nat × (List C) × Int) => A.length - k.toNat) (fun (⟨k, m2, u2, c2, v2⟩ : Int × Int × Nat × (List C) × Int) => 0 ≤ k ∧ k ≤ A.length ∧ m2 = (altsN (L.take (i.toNat + 1)) : Int) ∧ u2 = A.length ∧ c2 = ds ∧ v2 = A.length ∧ ∀ a : Nat, (a : Int) < k → (aAt A a).length ≤ 64) ((_, _, _, _, _)) (by generalize @greatG = x_greatG; cbv) ?_ (fun ⟨k, m2, u2, c2, v2⟩ hI => ?_)
  ·simp (disch := omega) only [hj, std, ite0, e3, hds, add64]; exact ⟨by omega, by omega, by omega, trivial, trivial, trivial, fun a h => by omega⟩
  obtain ⟨k1, k2, k3, k4, k5, k6, k7⟩ := hI
  subst k5
  rcases Decidable.em (k < (A.length : Int)) with hk | hk
  ·obtain ⟨c1, c2, c3⟩ := l2 k.toNat (by omega)
   generalize y_greatG : @greatG = x_greatG at *
   (repeat' first | ((first | with_reducible refine tr_cut (fun h => ?_) (fun h => ?_) | refine aw_condj (by cbv) (fun h => ?_) (fun h => ?_)) <;> (try simp (disch := omega) only [hj, std, cmpI, cmpB, satB, Bool.not_eq_true, Bool.not_eq_false, decide_eq_true_eq, decide_eq_false_iff_not, beq_iff_eq, bne_iff_ne, bne_eq_false_iff_eq, beq_eq_false_iff_ne, ne_eq, reduceCtorEq, not_true_eq_false, not_false_eq_true, pl0, if_true, cmpS_eq, cmpS_neq, Bool.not_eq_eq_eq_not, Bool.not_true, Bool.not_false, Bool.not_eq_true', c2, add64, sub64] at h) <;> (try (exfalso; omega))) | (with_reducible refine tr_alt (fun h => ?_) ?_ <;> (try (exfalso; omega))) | (with_reducible first | refine tr_ob ?_ ?_ | refine tr_done ?_) | (refine aw_tr hj tok book0 (by cbv) ?_) | (refine aw_seq fun K hK => ?_) | (refine aw_tr1 hj tok book0 (by cbv) ?_) | (refine aw_skip ?_) | (refine aw_block ?_) | (refine aw_exit ?_) | (refine aw_ret ⟨.inr rfl, ret_okj hj (by cbv) ?_ ?_⟩) | (refine aw_ret ?_) | (with_reducible first | refine th_n ?_ | refine th_r ?_ | refine th_x ?_ | refine blk_n ?_ | refine blk_r ?_ | refine blk_x ?_ | refine blk_y rfl ?_) | (refine ⟨.inr rfl, ret_okj hj (by cbv) ?_ ?_⟩) | (refine ⟨.inl rfl, ret_okj hj (by cbv) ?_ ?_⟩) | (with_reducible first | refine ⟨(_, _, _, _, _), by cbv, ?_, ?_⟩ | refine ⟨(_, _), by cbv, ?_, ?_⟩ | refine ⟨_, by cbv, ?_, ?_⟩) | (with_reducible apply_assumption -symm -exfalso only [*]))
   all_goals ((try subst y_greatG))
   all_goals (try (repeat' first | with_reducible exact obl0 | (with_reducible refine obl1 ?_ ?_)))
   all_goals (try first | with_reducible exact True.intro | ((first | refine ob_le hj ?_ | refine ob_lei hj ?_ | refine ob_inb hj ?_ | refine ob_pos hj ?_ | refine ob_ne0 hj ?_ | refine ob_eqb hj ?_); (first | rfl | first | omega | (simp only [hj, std]; split <;> omega) | (simp (disch := omega) only [hj, std, cmpI, cmpB, satB, add64, sub64, ite0, pl0, pl2, pl3, sb0, if_true, if_false, eq_self, l1] <;> omega) | (simp (disch := omega) [hj, std, cmpI, cmpB, satB, add64, sub64, ite0, pl0, pl2, pl3, sb0, if_true, if_false, eq_self, l1] <;> omega))) | ((refine ob_ok hj ?_; simp only [hj, std]; exact c1)) | ((refine r1b ?_; exact hlo k.toNat (by omega) (by omega))) | ((simp (disch := omega) only [hj, std, add64]; first | omega | (refine ⟨by omega, by omega, k3, k4, by first | rfl | trivial, k6, fun a ha => ?_⟩; by_cases e : (a : Int) < k; exact k7 a e; obtain rfl : a = k.toNat := (by omega); omega))))
  ·generalize y_greatG : @greatG = x_greatG at *
   (repeat' first | ((first | with_reducible refine tr_cut (fun h => ?_) (fun h => ?_) | refine aw_condj (by cbv) (fun h => ?_) (fun h => ?_)) <;> (try simp (disch := omega) only [hj, std, cmpI, cmpB, satB, Bool.not_eq_true, Bool.not_eq_false, decide_eq_true_eq, decide_eq_false_iff_not, beq_iff_eq, bne_iff_ne, bne_eq_false_iff_eq, beq_eq_false_iff_ne, ne_eq, reduceCtorEq, not_true_eq_false, not_false_eq_true, pl0, if_true, cmpS_eq, cmpS_neq, Bool.not_eq_eq_eq_not, Bool.not_true, Bool.not_false, Bool.not_eq_true', add64, sub64] at h) <;> (try (exfalso; omega))) | (with_reducible refine tr_alt (fun h => ?_) ?_ <;> (try (exfalso; omega))) | (with_reducible first | refine tr_ob ?_ ?_ | refine tr_done ?_) | (refine aw_tr hj tok book0 (by cbv) ?_) | (refine aw_seq fun K hK => ?_) | (refine aw_tr1 hj tok book0 (by cbv) ?_) | (refine aw_skip ?_) | (refine aw_block ?_) | (refine aw_exit ?_) | (refine aw_ret ⟨.inr rfl, ret_okj hj (by cbv) ?_ ?_⟩) | (refine aw_ret ?_) | (with_reducible first | refine th_n ?_ | refine th_r ?_ | refine th_x ?_ | refine blk_n ?_ | refine blk_r ?_ | refine blk_x ?_ | refine blk_y rfl ?_) | (refine ⟨.inr rfl, ret_okj hj (by cbv) ?_ ?_⟩) | (refine ⟨.inl rfl, ret_okj hj (by cbv) ?_ ?_⟩) | (with_reducible first | refine ⟨(_, _, _, _, _), by cbv, ?_, ?_⟩ | refine ⟨(_, _), by cbv, ?_, ?_⟩ | refine ⟨_, by cbv, ?_, ?_⟩) | (with_reducible apply_assumption -symm -exfalso only [*]))
   all_goals ((try subst y_greatG))
   all_goals (try (repeat' first | with_reducible exact obl0 | (with_reducible refine obl1 ?_ ?_)))
   all_goals (try first | with_reducible exact True.intro | ((first | refine ob_le hj ?_ | refine ob_lei hj ?_ | refine ob_inb hj ?_ | refine ob_pos hj ?_ | refine ob_ne0 hj ?_ | refine ob_eqb hj ?_); (first | rfl | first | omega | (simp only [hj, std]; split <;> omega) | (simp (disch := omega) only [hj, std, cmpI, cmpB, satB, add64, sub64, ite0, pl0, pl2, pl3, sb0, if_true, if_false, eq_self] <;> omega) | (simp (disch := omega) [hj, std, cmpI, cmpB, satB, add64, sub64, ite0, pl0, pl2, pl3, sb0, if_true, if_false, eq_self] <;> omega))) | ((simp (disch := omega) only [hj, std, add64]; first | omega | (refine ⟨by omega, by omega, by rw [k3, show (i + 1).toNat = i.toNat + 1 by omega], fun a ha => ?_⟩; by_cases e : (a : Int) < i; exact i4 a e; obtain rfl : a = i.toNat := (by omega); rw [hA']; exact fun q hq => k7 q (by omega)))))
 ·have hg := hend fun a ha => i4 a (by omega)
  have ei : i.toNat = n := by omega
  generalize y_greatG : @greatG = x_greatG at *
  (repeat' first | ((first | with_reducible refine tr_cut (fun h => ?_) (fun h => ?_) | refine aw_condj (by cbv) (fun h => ?_) (fun h => ?_)) <;> (try simp (disch := omega) only [hj, std, cmpI, cmpB, satB, Bool.not_eq_true, Bool.not_eq_false, decide_eq_true_eq, decide_eq_false_iff_not, beq_iff_eq, bne_iff_ne, bne_eq_false_iff_eq, beq_eq_false_iff_ne, ne_eq, reduceCtorEq, not_true_eq_false, not_false_eq_true, pl0, if_true, cmpS_eq, cmpS_neq, Bool.not_eq_eq_eq_not, Bool.not_true, Bool.not_false, Bool.not_eq_true', add64, sub64] at h) <;> (try (exfalso; omega))) | (with_reducible refine tr_alt (fun h => ?_) ?_ <;> (try (exfalso; omega))) | (with_reducible first | refine tr_ob ?_ ?_ | refine tr_done ?_) | (refine aw_tr hj tok book0 (by cbv) ?_) | (refine aw_seq fun K hK => ?_) | (refine aw_tr1 hj tok book0 (by cbv) ?_) | (refine aw_skip ?_) | (refine aw_block ?_) | (refine aw_exit ?_) | (refine aw_ret ⟨.inr rfl, ret_okj hj (by cbv) ?_ ?_⟩) | (refine aw_ret ?_) | (with_reducible first | refine th_n ?_ | refine th_r ?_ | refine th_x ?_ | refine blk_n ?_ | refine blk_r ?_ | refine blk_x ?_ | refine blk_y rfl ?_) | (refine ⟨.inr rfl, ret_okj hj (by cbv) ?_ ?_⟩) | (refine ⟨.inl rfl, ret_okj hj (by cbv) ?_ ?_⟩) | (with_reducible first | refine ⟨(_, _, _, _, _), by cbv, ?_, ?_⟩ | refine ⟨(_, _), by cbv, ?_, ?_⟩ | refine ⟨_, by cbv, ?_, ?_⟩) | (with_reducible apply_assumption -symm -exfalso only [*]))
  all_goals ((try subst y_greatG))
  all_goals (try (repeat' first | with_reducible exact obl0 | with_reducible refine obl1 ?_ ?_))
  all_goals (try first | with_reducible exact True.intro | ((first | refine ob_le hj ?_ | refine ob_lei hj ?_ | refine ob_inb hj ?_ | refine ob_pos hj ?_ | refine ob_ne0 hj ?_ | refine ob_eqb hj ?_); (first | rfl | first | omega | (simp only [hj, std]; split <;> omega) | (simp (disch := omega) only [hj, std, cmpI, cmpB, satB, add64, sub64, ite0, pl0, pl2, pl3, sb0, if_true, if_false, eq_self] <;> omega) | (simp (disch := omega) [hj, std, cmpI, cmpB, satB, add64, sub64, ite0, pl0, pl2, pl3, sb0, if_true, if_false, eq_self] <;> omega))) | ((refine r1b ?_; rw [ei, hz] at i3; have q : 4096 < altsN L := (by omega); rw [hg, decide_eq_true q, Bool.true_or])) | ((refine r1b ?_; rw [ei, hz] at i3; have q : ¬ 4096 < altsN L := (by omega); rw [hg, decide_eq_false q, Bool.false_or, hj]; show _ = decide ((n : Int) > 256); exact decide_eq_decide.2 (by omega))))
end Go.Proofs.Ytgimfjmigoibgaa.A
/- Grammars of rules: symbols get their numbers. -/
set_option linter.unusedSimpArgs false
set_option linter.unusedVariables false
set_option maxRecDepth 100000
set_option maxHeartbeats 4000000
namespace Go.Proofs.Ytgimfjmigoibgaa.A
open Go
abbrev strG : TypeId := 9
def hasM (m : GM) (s : ByteArray) : Bool := mhasC m.ks (.string s)
def getM (m : GM) (s : ByteArray) : Int := gi (mgetC m.ks m.vs (.string s) (vI 0))
def syV (m1 m2 : GM) (n : Nat) (b : Bool) (s : ByteArray) : Int := if b = true then (if hasM m2 s = true then -1 - getM m2 s else -1 - (n : Int)) else getM m1 s
def syB (m1 : GM) (b : Bool) (s : ByteArray) : Bool := b || hasM m1 s
def syM (m2 : GM) (n : Nat) (b : Bool) (s : ByteArray) : GM := if b = true ∧ hasM m2 s = false then m2.set (.string s) (vI n) else m2
def syN (m2 : GM) (n : Nat) (b : Bool) (s : ByteArray) : Nat := if b = true ∧ hasM m2 s = false then n + 1 else n
def syC (m2 : GM) (cs : List C) (b : Bool) (s : ByteArray) : List C := if b = true ∧ hasM m2 s = false then cs ++ [vS s] else cs
theorem pc_symbol (m1 m2 : GM) (N R : RC) (n : Nat) (cs : List C) (b : Bool) (s : ByteArray) (hn : n ≤ 1000000) (h2 : 0 ≤ getM m2 s ∧ getM m2 s ≤ 1000000) (hv1 : okK (.int .i64) (mgetC m1.ks m1.vs (.string s) (vI 0))) (hv2 : okK (.int .i64) (mgetC m2.ks m2.vs (.string s) (vI 0))) :
  PC Try.prog T 63 [.root (.box [.map .str m1, .map .str m2, N, .own strG n cs, R]), .v true [vB b, vS s]] (rets [(false, [.st (vI (syV m1 m2 n b s))]), (false, [.st (vB (syB m1 b s))])])
   [.box [.map .str m1, .map .str (syM m2 n b s), N, .own strG (syN m2 n b s) (syC m2 cs b s), R], .none] := by
 have k1 : hasM m2 s = true → syV m1 m2 n true s = -1 - getM m2 s ∧ syM m2 n true s = m2 ∧ syN m2 n true s = n ∧ syC m2 cs true s = cs := fun h => by
  unfold syV syM syN syC; rw [if_pos rfl, if_pos h, if_neg (by simp [h]), if_neg (by simp [h]), if_neg (by simp [h])]; exact ⟨rfl, rfl, rfl, rfl⟩
 have k2 : hasM m2 s = false → syV m1 m2 n true s = -1 - (n : Int) ∧ syM m2 n true s = m2.set (.string s) (vI n) ∧ syN m2 n true s = n + 1 ∧ syC m2 cs true s = cs ++ [vS s] := fun h => by
  unfold syV syM syN syC; rw [if_pos rfl, if_neg (by simp [h]), if_pos (by simp [h]), if_pos (by simp [h]), if_pos (by simp [h])]; exact ⟨rfl, rfl, rfl, rfl⟩
 refine pc_of tok Try.func63 rfl (by rfl) ?_
 obtain ⟨j, hj⟩ : ∃ j : J, j = std Try.prog T := ⟨_, rfl⟩
 have hm : Try.prog.follows .mixedOrders = true := by kernel_rfl
 cases b with
 | false =>
  generalize y_syV : @syV = x_syV at *
  generalize y_syB : @syB = x_syB at *
  generalize y_syM : @syM = x_syM at *
  generalize y_syN : @syN = x_syN at *
  generalize y_syC : @syC = x_syC at *
  (repeat' first | (refine ⟨.inr rfl, ret_oku hj (by cbv) (by cbv) rfl ?_ ?_ (upd_of ?_)⟩) | (refine ⟨.inl rfl, ret_oku hj (by cbv) (by cbv) rfl ?_ ?_ (upd_of ?_)⟩) | ((first | with_reducible refine tr_cut (fun h => ?_) (fun h => ?_) | refine aw_condj (by cbv) (fun h => ?_) (fun h => ?_)) <;> (try simp (disch := omega) only [hj, std, cmpI, cmpB, satB, Bool.not_eq_true, Bool.not_eq_false, decide_eq_true_eq, decide_eq_false_iff_not, beq_iff_eq, bne_iff_ne, bne_eq_false_iff_eq, beq_eq_false_iff_ne, ne_eq, reduceCtorEq, not_true_eq_false, not_false_eq_true, pl0, if_true, cmpS_eq, cmpS_neq, Bool.not_eq_eq_eq_not, Bool.not_true, Bool.not_false, Bool.not_eq_true', add64, sub64] at h) <;> (try (exfalso; omega))) | (with_reducible refine tr_alt (fun h => ?_) ?_ <;> (try (exfalso; omega))) | (with_reducible first | refine tr_ob ?_ ?_ | refine tr_done ?_) | (refine aw_dw1 (id := 8) hj tok hm book0 [(0, false), (1, false), (2, false), (3, false), (4, false), (5, false), (6, true), (7, true), (8, true)] [(9, true), (10, true), (11, true), (12, true), (13, true)] [1, 2, 3, 4, 5] (by kernel_rfl) (by cbv) ?_) | (refine aw_dw (id := 8) hj tok hm book0 [(0, false), (1, false), (2, false), (3, false), (4, false), (5, false), (6, true), (7, true), (8, true)] [(9, true), (10, true), (11, true), (12, true), (13, true)] [1, 2, 3, 4, 5] (by kernel_rfl) (by cbv) ?_) | (with_reducible refine dr_go (by cbv) ?_) | (refine aw_dw1 (id := 7) hj tok hm book0 [(0, false), (1, false), (2, false), (3, false), (4, false), (5, false), (6, true)] [(7, true)] [0, 1, 2, 3, 4, 5] (by kernel_rfl) (by cbv) ?_) | (refine aw_dw (id := 7) hj tok hm book0 [(0, false), (1, false), (2, false), (3, false), (4, false), (5, false), (6, true)] [(7, true)] [0, 1, 2, 3, 4, 5] (by kernel_rfl) (by cbv) ?_) | (refine aw_dr1 (id := 4) hj tok hm book0 true [(0, false), (1, false), (2, false), (3, false), (4, true), (5, true), (6, true), (7, true), (8, false), (9, false), (10, true), (11, true)] (by kernel_rfl) (by cbv) ?_) | (refine aw_dr (id := 4) hj tok hm book0 true [(0, false), (1, false), (2, false), (3, false), (4, true), (5, true), (6, true), (7, true), (8, false), (9, false), (10, true), (11, true)] (by kernel_rfl) (by cbv) ?_) | (refine aw_dr1 (id := 2) hj tok hm book0 true [(0, false), (1, false), (2, false), (3, false), (4, true), (5, true), (6, true), (7, true), (8, false), (9, false), (10, true), (11, true)] (by kernel_rfl) (by cbv) ?_) | (refine aw_dr (id := 2) hj tok hm book0 true [(0, false), (1, false), (2, false), (3, false), (4, true), (5, true), (6, true), (7, true), (8, false), (9, false), (10, true), (11, true)] (by kernel_rfl) (by cbv) ?_) | (refine aw_tr hj tok book0 (by cbv) ?_) | (refine aw_seq fun K hK => ?_) | (refine aw_tr1 hj tok book0 (by cbv) ?_) | (refine aw_skip ?_) | (refine aw_block ?_) | (refine aw_exit ?_) | (refine aw_ret ⟨.inr rfl, ret_okj hj (by cbv) ?_ ?_⟩) | (refine aw_ret ?_) | (with_reducible first | refine th_n ?_ | refine th_r ?_ | refine th_x ?_ | refine blk_n ?_ | refine blk_r ?_ | refine blk_x ?_ | refine blk_y rfl ?_) | (refine ⟨.inr rfl, ret_okj hj (by cbv) ?_ ?_⟩) | (refine ⟨.inl rfl, ret_okj hj (by cbv) ?_ ?_⟩) | (with_reducible apply_assumption -symm -exfalso only [*]))
  all_goals ((try subst y_syV); (try subst y_syB); (try subst y_syM); (try subst y_syN); (try subst y_syC))
  all_goals (try (repeat' first | with_reducible exact obl0 | (with_reducible refine obl1 ?_ ?_)))
  all_goals (try first | with_reducible exact True.intro | ((first | refine ob_le hj ?_ | refine ob_lei hj ?_ | refine ob_inb hj ?_ | refine ob_pos hj ?_ | refine ob_ne0 hj ?_ | refine ob_eqb hj ?_); (first | rfl | first | omega | (simp only [hj, std]; split <;> omega) | (simp (disch := omega) only [hj, std, cmpI, cmpB, satB, add64, sub64, ite0, pl0, pl2, pl3, sb0, if_true, if_false, eq_self] <;> omega) | (simp (disch := omega) [hj, std, cmpI, cmpB, satB, add64, sub64, ite0, pl0, pl2, pl3, sb0, if_true, if_false, eq_self] <;> omega))) | ((refine ob_ok hj ?_; rw [hj]; exact hv1)) | ((rw [hj]; rfl)) | ((refine upd_box ?_ (upd_none (upd_nil _)); rfl)))
 | true =>
  generalize y_syV : @syV = x_syV at *
  generalize y_syB : @syB = x_syB at *
  generalize y_syM : @syM = x_syM at *
  generalize y_syN : @syN = x_syN at *
  generalize y_syC : @syC = x_syC at *
  (repeat' first | (refine ⟨.inr rfl, ret_oku hj (by cbv) (by cbv) rfl ?_ ?_ (upd_of ?_)⟩) | (refine ⟨.inl rfl, ret_oku hj (by cbv) (by cbv) rfl ?_ ?_ (upd_of ?_)⟩) | ((first | with_reducible refine tr_cut (fun h => ?_) (fun h => ?_) | refine aw_condj (by cbv) (fun h => ?_) (fun h => ?_)) <;> (try simp (disch := omega) only [hj, std, cmpI, cmpB, satB, Bool.not_eq_true, Bool.not_eq_false, decide_eq_true_eq, decide_eq_false_iff_not, beq_iff_eq, bne_iff_ne, bne_eq_false_iff_eq, beq_eq_false_iff_ne, ne_eq, reduceCtorEq, not_true_eq_false, not_false_eq_true, pl0, if_true, cmpS_eq, cmpS_neq, Bool.not_eq_eq_eq_not, Bool.not_true, Bool.not_false, Bool.not_eq_true', add64, sub64] at h) <;> (try (exfalso; omega))) | (with_reducible refine tr_alt (fun h => ?_) ?_ <;> (try (exfalso; omega))) | (with_reducible first | refine tr_ob ?_ ?_ | refine tr_done ?_) | (refine aw_dw1 (id := 8) hj tok hm book0 [(0, false), (1, false), (2, false), (3, false), (4, false), (5, false), (6, true), (7, true), (8, true)] [(9, true), (10, true), (11, true), (12, true), (13, true)] [1, 2, 3, 4, 5] (by kernel_rfl) (by cbv) ?_) | (refine aw_dw (id := 8) hj tok hm book0 [(0, false), (1, false), (2, false), (3, false), (4, false), (5, false), (6, true), (7, true), (8, true)] [(9, true), (10, true), (11, true), (12, true), (13, true)] [1, 2, 3, 4, 5] (by kernel_rfl) (by cbv) ?_) | (with_reducible refine dr_go (by cbv) ?_) | (refine aw_dw1 (id := 7) hj tok hm book0 [(0, false), (1, false), (2, false), (3, false), (4, false), (5, false), (6, true)] [(7, true)] [0, 1, 2, 3, 4, 5] (by kernel_rfl) (by cbv) ?_) | (refine aw_dw (id := 7) hj tok hm book0 [(0, false), (1, false), (2, false), (3, false), (4, false), (5, false), (6, true)] [(7, true)] [0, 1, 2, 3, 4, 5] (by kernel_rfl) (by cbv) ?_) | (refine aw_dr1 (id := 4) hj tok hm book0 true [(0, false), (1, false), (2, false), (3, false), (4, true), (5, true), (6, true), (7, true), (8, false), (9, false), (10, true), (11, true)] (by kernel_rfl) (by cbv) ?_) | (refine aw_dr (id := 4) hj tok hm book0 true [(0, false), (1, false), (2, false), (3, false), (4, true), (5, true), (6, true), (7, true), (8, false), (9, false), (10, true), (11, true)] (by kernel_rfl) (by cbv) ?_) | (refine aw_dr1 (id := 2) hj tok hm book0 true [(0, false), (1, false), (2, false), (3, false), (4, true), (5, true), (6, true), (7, true), (8, false), (9, false), (10, true), (11, true)] (by kernel_rfl) (by cbv) ?_) | (refine aw_dr (id := 2) hj tok hm book0 true [(0, false), (1, false), (2, false), (3, false), (4, true), (5, true), (6, true), (7, true), (8, false), (9, false), (10, true), (11, true)] (by kernel_rfl) (by cbv) ?_) | (refine aw_tr hj tok book0 (by cbv) ?_) | (refine aw_seq fun K hK => ?_) | (refine aw_tr1 hj tok book0 (by cbv) ?_) | (refine aw_skip ?_) | (refine aw_block ?_) | (refine aw_exit ?_) | (refine aw_ret ⟨.inr rfl, ret_okj hj (by cbv) ?_ ?_⟩) | (refine aw_ret ?_) | (with_reducible first | refine th_n ?_ | refine th_r ?_ | refine th_x ?_ | refine blk_n ?_ | refine blk_r ?_ | refine blk_x ?_ | refine blk_y rfl ?_) | (refine ⟨.inr rfl, ret_okj hj (by cbv) ?_ ?_⟩) | (refine ⟨.inl rfl, ret_okj hj (by cbv) ?_ ?_⟩) | (with_reducible apply_assumption -symm -exfalso only [*]))
  all_goals ((try subst y_syV); (try subst y_syB); (try subst y_syM); (try subst y_syN); (try subst y_syC))
  all_goals (try (have q : hasM m2 s = true := (by assumption); obtain ⟨r1, r2, r3, r4⟩ := k1 q))
  all_goals (try (have q : hasM m2 s = false := (by assumption); obtain ⟨r1, r2, r3, r4⟩ := k2 q))
  all_goals (try (repeat' first | with_reducible exact obl0 | with_reducible refine obl1 ?_ ?_))
  all_goals (try first | with_reducible exact True.intro | ((first | refine ob_le hj ?_ | refine ob_lei hj ?_ | refine ob_inb hj ?_ | refine ob_pos hj ?_ | refine ob_ne0 hj ?_ | refine ob_eqb hj ?_); (first | rfl | first | omega | (simp only [hj, std]; split <;> omega) | (simp (disch := omega) only [hj, std, cmpI, cmpB, satB, add64, sub64, ite0, pl0, pl2, pl3, sb0, if_true, if_false, eq_self] <;> omega) | (simp (disch := omega) [hj, std, cmpI, cmpB, satB, add64, sub64, ite0, pl0, pl2, pl3, sb0, if_true, if_false, eq_self] <;> omega))) | ((refine ob_ok hj ?_; rw [hj]; exact hv2)) | ((rw [hj, r1]; show rets [(false, [.st (vI _)]), (false, [.st (vB true)])] = rets [(false, [.st (vI (arithI .sub .i64 (-1) (getM m2 s)))]), (false, [.st (vB true)])]; rw [sub64 (by omega) (by omega)])) | ((rw [hj, r1]; show rets [(false, [.st (vI _)]), (false, [.st (vB true)])] = rets [(false, [.st (vI (arithI .sub .i64 (-1) (n : Int)))]), (false, [.st (vB true)])]; rw [sub64 (by omega) (by omega)])) | ((refine upd_box ?_ (upd_none (upd_nil _)); rw [r2, r3, r4]; rfl)) | ((refine upd_box ?_ (upd_none (upd_nil _)); rw [r2, r3, r4]; simp only [hj, std, ite0]; rfl)))
end Go.Proofs.Ytgimfjmigoibgaa.A
/- Grammars of rules: an alternative becomes a rule. -/
set_option linter.unusedSimpArgs false
set_option linter.unusedVariables false
set_option maxRecDepth 100000
set_option maxHeartbeats 4000000
namespace Go.Proofs.Ytgimfjmigoibgaa.A
open Go
def inS (l : List ByteArray) (a : ByteArray) : Bool := l.any fun x => decide (x = a)
def ixS (l : List ByteArray) (a : ByteArray) : Nat := l.findIdx fun x => decide (x = a)
theorem inS_iff {l : List ByteArray} {a : ByteArray} : inS l a = true ↔ a ∈ l := by unfold inS; simp
theorem inS_not {l : List ByteArray} {a : ByteArray} : inS l a = false ↔ a ∉ l := by rw [← inS_iff]; simp
theorem ixS_lt {l : List ByteArray} {a : ByteArray} (h : inS l a = true) : ixS l a < l.length := by
 unfold ixS; exact List.findIdx_lt_length_of_exists (by obtain ⟨x, h1, h2⟩ := List.any_eq_true.1 h; exact ⟨x, h1, h2⟩)
theorem inS_app (l : List ByteArray) (a b : ByteArray) : inS (l ++ [a]) b = (inS l b || decide (a = b)) := by unfold inS; simp
theorem ixS_app1 {l : List ByteArray} {b : ByteArray} (h : inS l b = true) (a : ByteArray) : ixS (l ++ [a]) b = ixS l b := by
 have := ixS_lt h
 unfold ixS at this ⊢
 rw [List.findIdx_append, if_pos this]
theorem ixS_app2 {l : List ByteArray} {a : ByteArray} (h : inS l a = false) : ixS (l ++ [a]) a = l.length := by
 have : ¬ ixS l a < l.length := fun q => by
  have h1 := List.findIdx_getElem (w := q)
  have h2 : a ∈ l := by
   have : l[ixS l a] = a := of_decide_eq_true h1
   rw [← this]; exact List.getElem_mem q
  rw [inS_not] at h; exact h h2
 unfold ixS at this ⊢
 rw [List.findIdx_append, if_neg this]
 simp
def MapIs (m : GM) (l : List ByteArray) : Prop := ∀ a, mgetC m.ks m.vs (.string a) (vI 0) = vI (if inS l a = true then (ixS l a : Int) else 0) ∧ mhasC m.ks (.string a) = inS l a
theorem mhas_set (m : GM) (a b : ByteArray) (v : C) : mhasC (m.set (.string a) v).ks (.string b) = (decide (a = b) || mhasC m.ks (.string b)) := by
 unfold GM.set
 cases hk : kidx m.ks (.string a) with
 | some i =>
  obtain ⟨hi, hki⟩ := kidx_some hk
  show mhasC m.ks (.string b) = _
  by_cases e : a = b
  ·subst e; simp [mhasC, hk]
  ·simp [e]
 | none =>
  show mhasC (m.ks ++ [.string a]) (.string b) = _
  unfold mhasC kidx
  rw [List.findIdx?_append]
  by_cases e : a = b
  ·subst e
   simp [keq]
  ·cases hb : m.ks.findIdx? (keq (.string b)) with
   | none => simp [e, keq, List.findIdx?_singleton, Ne.symm e]
   | some i => simp
theorem MapIs.new : MapIs GM.new [] := fun a => ⟨rfl, rfl⟩
theorem MapIs.add {m : GM} {l : List ByteArray} (h : MapIs m l) {a : ByteArray} (ha : inS l a = false) : MapIs (m.set (.string a) (vI (l.length : Int))) (l ++ [a]) := fun b => by
 obtain ⟨h1, h2⟩ := h b
 constructor
 ·have := mget_set m a b (vI (l.length : Int)) (vI 0)
  unfold mgetS at this
  rw [this, h1, inS_app]
  by_cases e : a = b
  ·subst e
   rw [if_pos rfl, if_pos (by simp), ixS_app2 ha]
  ·rw [if_neg e]
   cases hb : inS l b with
   | true => rw [if_pos rfl, if_pos (by simp), ixS_app1 hb]
   | false => rw [if_neg (by simp), if_neg (by simp [e])]
 ·rw [mhas_set, h2, inS_app, Bool.or_comm]
theorem MapIs.has {m : GM} {l : List ByteArray} (h : MapIs m l) (a : ByteArray) : hasM m a = inS l a := (h a).2
theorem MapIs.get {m : GM} {l : List ByteArray} (h : MapIs m l) (a : ByteArray) : getM m a = if inS l a = true then (ixS l a : Int) else 0 := by unfold getM; rw [(h a).1]; rfl
theorem MapIs.ok {m : GM} {l : List ByteArray} (h : MapIs m l) (a : ByteArray) : okK (.int .i64) (mgetC m.ks m.vs (.string a) (vI 0)) := ⟨_, (h a).1⟩
theorem MapIs.le {m : GM} {l : List ByteArray} (h : MapIs m l) (a : ByteArray) : 0 ≤ getM m a ∧ getM m a ≤ l.length := by
 rw [h.get]
 split
 ·rename_i ha
  have := ixS_lt ha
  omega
 ·omega
abbrev RuS := List Int × GM × List ByteArray
def ruF (m1 : GM) : List It → RuS → Bool × RuS
 | [], st => (true, st)
 | it :: r, st =>
  if syB m1 it.1 it.2 = true then ruF m1 r (st.1 ++ [syV m1 st.2.1 st.2.2.length it.1 it.2], syM st.2.1 st.2.2.length it.1 it.2, if it.1 = true ∧ hasM st.2.1 it.2 = false then st.2.2 ++ [it.2] else st.2.2)
  else (false, st)
def symS (Ns Ts : List ByteArray) (it : It) : Int × List ByteArray :=
 if it.1 = true then (if inS Ts it.2 = true then (-1 - (ixS Ts it.2 : Int), Ts) else (-1 - (Ts.length : Int), Ts ++ [it.2])) else ((ixS Ns it.2 : Int), Ts)
def altS (Ns : List ByteArray) : List It → List Int × List ByteArray → Bool × List Int × List ByteArray
 | [], st => (true, st)
 | it :: r, st => if (it.1 || inS Ns it.2) = true then altS Ns r (st.1 ++ [(symS Ns st.2 it).1], (symS Ns st.2 it).2) else (false, st)
theorem syM_is {m2 : GM} {Ts : List ByteArray} (h : MapIs m2 Ts) (b : Bool) (s : ByteArray) : MapIs (syM m2 Ts.length b s) (if b = true ∧ hasM m2 s = false then Ts ++ [s] else Ts) := by
 unfold syM
 by_cases hc : b = true ∧ hasM m2 s = false
 ·rw [if_pos hc, if_pos hc]
  exact h.add (by have := hc.2; rwa [h.has] at this)
 ·rw [if_neg hc, if_neg hc]; exact h
theorem ruF_alt {m1 : GM} {Ns : List ByteArray} (h1 : MapIs m1 Ns) : ∀ (l : List It) (R : List Int) (m2 : GM) (Ts : List ByteArray), MapIs m2 Ts →
  (ruF m1 l (R, m2, Ts)).1 = (altS Ns l (R, Ts)).1 ∧ (ruF m1 l (R, m2, Ts)).2.1 = (altS Ns l (R, Ts)).2.1 ∧ (ruF m1 l (R, m2, Ts)).2.2.2 = (altS Ns l (R, Ts)).2.2 ∧ MapIs (ruF m1 l (R, m2, Ts)).2.2.1 (altS Ns l (R, Ts)).2.2 := by
 intro l
 induction l with
 | nil => intro R m2 Ts h; exact ⟨rfl, rfl, rfl, h⟩
 | cons it l ih =>
  intro R m2 Ts h2
  unfold ruF altS
  have hc : syB m1 it.1 it.2 = (it.1 || inS Ns it.2) := by unfold syB; rw [h1.has]
  rw [hc]
  by_cases hb : (it.1 || inS Ns it.2) = true
  ·rw [if_pos hb, if_pos hb]
   have e1 : syV m1 m2 Ts.length it.1 it.2 = (symS Ns Ts it).1 := by
    unfold syV symS
    split
    ·rw [h2.has, h2.get]
     cases ht : inS Ts it.2 with
     | true => rfl
     | false => rfl
    ·rename_i hf
     have hf : it.1 = false := by simpa using hf
     rw [hf, Bool.false_or] at hb
     rw [h1.get, if_pos hb]
   have e2 : (if it.1 = true ∧ hasM m2 it.2 = false then Ts ++ [it.2] else Ts) = (symS Ns Ts it).2 := by
    unfold symS
    rw [h2.has]
    cases hf : it.1 with
    | true =>
     cases ht : inS Ts it.2 with
     | true => rfl
     | false => rfl
    | false => rfl
   have h3 := syM_is h2 it.1 it.2
   dsimp only
   rw [e1]
   rw [e2] at h3 ⊢
   exact ih _ _ _ h3
  ·rw [if_neg hb, if_neg hb]
   exact ⟨rfl, rfl, rfl, h2⟩
def itsOf (cs : List C) : List It := itsGo cs
theorem itsOf_it (l : List It) : itsOf (itC l) = l := itsGo_itC l
def ruA (m1 m2 : GM) (tc es : List C) : Bool × RuS := ruF m1 (itsOf es) ([], m2, strsOf tc)
def ruB (m1 m2 : GM) (tc es : List C) : Bool := (ruA m1 m2 tc es).1
def ruM (m1 m2 : GM) (tc es : List C) : GM := (ruA m1 m2 tc es).2.2.1
def ruN (m1 m2 : GM) (tc es : List C) : Nat := nS (ruA m1 m2 tc es).2.2.2
def ruC (m1 m2 : GM) (tc es : List C) : List C := sC (ruA m1 m2 tc es).2.2.2
def ruRn (m1 m2 : GM) (tc es : List C) (n : Nat) : Nat := if ruB m1 m2 tc es = true then n + 1 else n
def ruRc (m1 m2 : GM) (tc es : List C) (rc : List C) (left : Int) : List C := if ruB m1 m2 tc es = true then rC (rlsOf rc ++ [(left, (ruA m1 m2 tc es).2.1)]) else rc
abbrev ruleTy : TypeId := 42
abbrev intG : TypeId := 3
def bookM3 (x_syV : GM → GM → Nat → Bool → ByteArray → Int) (x_syB : GM → Bool → ByteArray → Bool) (x_syM : GM → Nat → Bool → ByteArray → GM) (x_syN : GM → Nat → Bool → ByteArray → Nat) (x_syC : GM → List C → Bool → ByteArray → List C) : Book := fun f xs => match f, xs with
 | 63, [.root (.box [.map _ m1, .map _ m2, N, .own _ n cs, R]), .v true [.val (.bool b), .val (.string s)]] => some (rets [(false, [.st (vI (x_syV m1 m2 n b s))]), (false, [.st (vB (x_syB m1 b s))])], [.box [.map .str m1, .map .str (x_syM m2 n b s), N, .own strG (x_syN m2 n b s) (x_syC m2 cs b s), R], .none])
 | _, _ => none
theorem c_symbol {m1 m2 : GM} {Ns Ts : List ByteArray} {N R : RC} {n : Nat} {cs : List C} {b : Bool} {s : ByteArray} (h1 : MapIs m1 Ns) (h2 : MapIs m2 Ts) (hT : Ts.length ≤ 1000000) (hn : n ≤ 1000000) :
  (std Try.prog T).pc 63 [.root (.box [.map .str m1, .map .str m2, N, .own strG n cs, R]), .v true [vB b, vS s]] (rets [(false, [.st (vI (syV m1 m2 n b s))]), (false, [.st (vB (syB m1 b s))])]) [.box [.map .str m1, .map .str (syM m2 n b s), N, .own strG (syN m2 n b s) (syC m2 cs b s), R], .none] :=
 ⟨enters Try.func63 (by kernel_rfl) (by kernel_rfl), pc_symbol m1 m2 N R n cs b s hn ⟨(h2.le s).1, by have := (h2.le s).2; omega⟩ (h1.ok s) (h2.ok s)⟩
def ruInv (m1 m2 : GM) (Ts : List ByteArray) (a : List It) (k : Int) (m' : GM) (tn : Nat) (tc : List C) (u : Nat) (rc : List C) : Prop :=
 ∃ R T', tn = nS T' ∧ tc = sC T' ∧ u = nI R ∧ rc = iC R ∧ MapIs m' T' ∧ T'.length ≤ Ts.length + k.toNat ∧ R.length = k.toNat ∧ ruF m1 a ([], m2, Ts) = ruF m1 (a.drop k.toNat) (R, m', T')
theorem ruF_cons (m1 : GM) (it : It) (r : List It) (st : RuS) : ruF m1 (it :: r) st = if syB m1 it.1 it.2 = true then ruF m1 r (st.1 ++ [syV m1 st.2.1 st.2.2.length it.1 it.2], syM st.2.1 st.2.2.length it.1 it.2, if it.1 = true ∧ hasM st.2.1 it.2 = false then st.2.2 ++ [it.2] else st.2.2)
  else (false, st) := rfl
theorem ruF_nil (m1 : GM) (st : RuS) : ruF m1 [] st = (true, st) := rfl
theorem drop_tAt {a : List It} {k : Nat} (h : k < a.length) : a.drop k = tAt a k :: a.drop (k + 1) := by
 rw [List.drop_eq_getElem_cons h]; simp [tAt, List.getD_eq_getElem?_getD, List.getElem?_eq_getElem h]
theorem ruInv.next {m1 m2 m' : GM} {Ts : List ByteArray} {a : List It} {k : Int} {tn u : Nat} {tc rc : List C} (h : ruInv m1 m2 Ts a k m' tn tc u rc) (k0 : 0 ≤ k) (hk : k.toNat < a.length) (hb : syB m1 (tAt a k.toNat).1 (tAt a k.toNat).2 = true) :
  ruInv m1 m2 Ts a (k + 1) (syM m' tn (tAt a k.toNat).1 (tAt a k.toNat).2) (syN m' tn (tAt a k.toNat).1 (tAt a k.toNat).2) (syC m' tc (tAt a k.toNat).1 (tAt a k.toNat).2) (u + 1) (rc ++ [vI (syV m1 m' tn (tAt a k.toNat).1 (tAt a k.toNat).2)]) := by
 obtain ⟨R, T', rfl, rfl, rfl, rfl, hm, hT, hR, hg⟩ := h
 rw [drop_tAt hk, ruF_cons] at hg
 generalize tAt a k.toNat = x at *
 rw [if_pos hb] at hg
 rw [nS_eq, nI_eq]
 have h3 := syM_is hm x.1 x.2
 refine ⟨R ++ [syV m1 m' T'.length x.1 x.2], if x.1 = true ∧ hasM m' x.2 = false then T' ++ [x.2] else T', ?_, ?_, by rw [nI_eq]; simp, by simp [iC], h3, ?_, by simp; omega, ?_⟩
 ·unfold syN; rw [nS_eq]; split <;> simp
 ·unfold syC; split
  ·exact sC_snoc T' x.2
  ·rfl
 ·split
  ·simp; omega
  ·omega
 ·rw [hg, show (k + 1).toNat = k.toNat + 1 by omega]
theorem ruInv.stop {m1 m2 m' : GM} {Ts : List ByteArray} {a : List It} {es : List C} {k : Int} {tn u : Nat} {tc rc : List C} (h : ruInv m1 m2 Ts a k m' tn tc u rc) (hA : ruA m1 m2 (sC Ts) es = ruF m1 a ([], m2, Ts)) (hk : k.toNat < a.length) (hb : syB m1 (tAt a k.toNat).1 (tAt a k.toNat).2 = false) (n : Nat) (rc' : List C) (left : Int) :
  ruB m1 m2 (sC Ts) es = false ∧ ruM m1 m2 (sC Ts) es = syM m' tn (tAt a k.toNat).1 (tAt a k.toNat).2 ∧ ruN m1 m2 (sC Ts) es = syN m' tn (tAt a k.toNat).1 (tAt a k.toNat).2 ∧ ruC m1 m2 (sC Ts) es = syC m' tc (tAt a k.toNat).1 (tAt a k.toNat).2 ∧ ruRn m1 m2 (sC Ts) es n = n ∧ ruRc m1 m2 (sC Ts) es rc' left = rc' := by
 obtain ⟨R, T', rfl, rfl, rfl, rfl, hm, hT, hR, hg⟩ := h
 rw [drop_tAt hk, ruF_cons] at hg
 generalize tAt a k.toNat = x at *
 rw [if_neg (by simp [hb])] at hg
 have hx : x.1 = false := by unfold syB at hb; exact (Bool.or_eq_false_iff.1 hb).1
 have e : ruB m1 m2 (sC Ts) es = false := by unfold ruB; rw [hA, hg]
 unfold ruRn ruRc
 rw [e]
 unfold ruM ruN ruC syM syN syC
 rw [hA, hg, hx]
 exact ⟨rfl, rfl, rfl, rfl, rfl, rfl⟩
theorem ruInv.done {m1 m2 m' : GM} {Ts : List ByteArray} {a : List It} {es : List C} {k : Int} {tn u : Nat} {tc rc : List C} (h : ruInv m1 m2 Ts a k m' tn tc u rc) (hA : ruA m1 m2 (sC Ts) es = ruF m1 a ([], m2, Ts)) (hk : ¬ k.toNat < a.length) (Rs : List Rl) (left : Int) :
  ruB m1 m2 (sC Ts) es = true ∧ ruM m1 m2 (sC Ts) es = m' ∧ ruN m1 m2 (sC Ts) es = tn ∧ ruC m1 m2 (sC Ts) es = tc ∧ ruRn m1 m2 (sC Ts) es (nR Rs) = nR Rs + 1 ∧ ruRc m1 m2 (sC Ts) es (rC Rs) left = rC Rs ++ [vI left, .sl u rc] := by
 obtain ⟨R, T', rfl, rfl, rfl, rfl, hm, hT, hR, hg⟩ := h
 rw [List.drop_eq_nil_of_le (by omega), ruF_nil] at hg
 have e : ruB m1 m2 (sC Ts) es = true := by unfold ruB; rw [hA, hg]
 unfold ruRn ruRc
 rw [e]
 unfold ruM ruN ruC
 rw [hA, hg]
 refine ⟨rfl, rfl, rfl, rfl, rfl, ?_⟩
 rw [if_pos rfl, rlsOf_rC, ← rC_snoc]
theorem pc_ruleG (m1 m2 : GM) (N : RC) (Ns Ts : List ByteArray) (Rs : List Rl) (left : Int) (a : List It) (h1 : MapIs m1 Ns) (h2 : MapIs m2 Ts) (hT : Ts.length ≤ 400000) (ha : a.length ≤ 400000) (hR : nR Rs ≤ 1000000) :
  PC Try.prog T 38 [.root (.box [.map .str m1, .map .str m2, N, .own strG (nS Ts) (sC Ts), .own ruleTy (nR Rs) (rC Rs)]), .v false [vI left], .v false [.sl a.length (itC a)]] (ret1 (.st (vB (ruB m1 m2 (sC Ts) (itC a)))))
   [.box [.map .str m1, .map .str (ruM m1 m2 (sC Ts) (itC a)), N, .own strG (ruN m1 m2 (sC Ts) (itC a)) (ruC m1 m2 (sC Ts) (itC a)), .own ruleTy (ruRn m1 m2 (sC Ts) (itC a) (nR Rs)) (ruRc m1 m2 (sC Ts) (itC a) (rC Rs) left)], .none, .none] := by
 have hA : ruA m1 m2 (sC Ts) (itC a) = ruF m1 a ([], m2, Ts) := by unfold ruA; rw [itsOf_it, strsOf_sC]
 have hl := itC_len a
 have nTs := nS_eq Ts
 have hit := fun (k : Nat) (h : k < a.length) => at_itC (a := a) (i := k) h
 generalize hn : a.length = n at *
 generalize hes : itC a = es at *
 refine pc_of tok Try.func38 rfl (by rfl) ?_
 obtain ⟨j, hj⟩ : ∃ j : J, j = std Try.prog T := ⟨_, rfl⟩
 have hm : Try.prog.follows .mixedOrders = true := by kernel_rfl
 generalize y_syV : @syV = x_syV at *
 generalize y_syB : @syB = x_syB at *
 generalize y_syM : @syM = x_syM at *
 generalize y_syN : @syN = x_syN at *
 generalize y_syC : @syC = x_syC at *
 generalize y_ruB : @ruB = x_ruB at *
 generalize y_ruM : @ruM = x_ruM at *
 generalize y_ruN : @ruN = x_ruN at *
 generalize y_ruC : @ruC = x_ruC at *
 generalize y_ruRn : @ruRn = x_ruRn at *
 generalize y_ruRc : @ruRc = x_ruRc at *
 generalize y_rC : @rC = x_rC at *
 generalize y_nR : @nR = x_nR at *
 generalize y_sC : @sC = x_sC at *
 generalize y_nS : @nS = x_nS at *
 generalize y_itC : @itC = x_itC at *
 (repeat' first | (refine ⟨.inr rfl, ret_oku hj (by cbv) (by cbv) rfl ?_ ?_ (upd_of ?_)⟩) | (refine ⟨.inl rfl, ret_oku hj (by cbv) (by cbv) rfl ?_ ?_ (upd_of ?_)⟩) | ((first | with_reducible refine tr_cut (fun h => ?_) (fun h => ?_) | refine aw_condj (by cbv) (fun h => ?_) (fun h => ?_)) <;> (try simp (disch := omega) only [hj, std, cmpI, cmpB, satB, Bool.not_eq_true, Bool.not_eq_false, decide_eq_true_eq, decide_eq_false_iff_not, beq_iff_eq, bne_iff_ne, bne_eq_false_iff_eq, beq_eq_false_iff_ne, ne_eq, reduceCtorEq, not_true_eq_false, not_false_eq_true, pl0, if_true, cmpS_eq, cmpS_neq, Bool.not_eq_eq_eq_not, Bool.not_true, Bool.not_false, Bool.not_eq_true', add64, sub64] at h) <;> (try (exfalso; omega))) | (with_reducible refine tr_alt (fun h => ?_) ?_ <;> (try (exfalso; omega))) | (with_reducible first | refine tr_ob ?_ ?_ | refine tr_done ?_) | (refine aw_tr hj tok (bookM3 x_syV x_syB x_syM x_syN x_syC) (by cbv) ?_) | (refine aw_seq fun K hK => ?_) | (refine aw_tr1 hj tok (bookM3 x_syV x_syB x_syM x_syN x_syC) (by cbv) ?_) | (refine aw_skip ?_) | (refine aw_block ?_) | (refine aw_exit ?_) | (refine aw_ret ⟨.inr rfl, ret_okj hj (by cbv) ?_ ?_⟩) | (refine aw_ret ?_) | (with_reducible first | refine th_n ?_ | refine th_r ?_ | refine th_x ?_ | refine blk_n ?_ | refine blk_r ?_ | refine blk_x ?_ | refine blk_y rfl ?_) | (refine ⟨.inr rfl, ret_okj hj (by cbv) ?_ ?_⟩) | (refine ⟨.inl rfl, ret_okj hj (by cbv) ?_ ?_⟩) | (with_reducible first | refine ⟨(_, _, _, _, _, _), by cbv, ?_, ?_⟩ | refine ⟨_, by cbv, ?_, ?_⟩) | (with_reducible apply_assumption -symm -exfalso only [*]))
 all_goals ((try subst y_syV); (try subst y_syB); (try subst y_syM); (try subst y_syN); (try subst y_syC); (try subst y_ruB); (try subst y_ruM); (try subst y_ruN); (try subst y_ruC); (try subst y_ruRn); (try subst y_ruRc); (try subst y_rC); (try subst y_nR); (try subst y_sC); (try subst y_nS); (try subst y_itC))
 all_goals (try (repeat' first | with_reducible exact obl0 | (with_reducible refine obl1 ?_ ?_)))
 all_goals (try first | with_reducible exact True.intro | ((first | refine ob_le hj ?_ | refine ob_lei hj ?_ | refine ob_inb hj ?_ | refine ob_pos hj ?_ | refine ob_ne0 hj ?_ | refine ob_eqb hj ?_); (first | rfl | first | omega | (simp only [hj, std]; split <;> omega) | (simp (disch := omega) only [hj, std, cmpI, cmpB, satB, add64, sub64, ite0, pl0, pl2, pl3, sb0, if_true, if_false, eq_self] <;> omega) | (simp (disch := omega) [hj, std, cmpI, cmpB, satB, add64, sub64, ite0, pl0, pl2, pl3, sb0, if_true, if_false, eq_self] <;> omega))))
 refine aw_lpj hj [(0, .keep), (7, .keep), (14, .keep), (15, .keep), (16, .keep), (7, .box 1 intG)] [7] (fun (⟨k, m', tn, tc, u, rc⟩ : Int × GM × Nat × (List C) × Nat × (List C)) => stOfR 47 [(0, .one (.ptr 48 0)), (7, .one (.ptr 7 0)), (14, .one (.c (.sl n es))), (15, .one (.c (vI (j.ofNat n)))), (16, .one (.c (vI k)))] [(7, .box [.st (vI left), .own intG u rc])] [.box [.map .str m1, .map .str m', N, .own strG tn tc, .own ruleTy (nR Rs) (rC Rs)], .none, .none]) (fun (⟨k, m', tn, tc, u, rc⟩ : Int × GM × Nat × (List C) × Nat × (List C)) => n - k.toNat) (fun (⟨k, m', tn, tc, u, rc⟩ : Int × GM × Nat × (List C) × Nat × (List C)) => 0 ≤ k ∧ k ≤ n ∧ ruInv m1 m2 Ts a k m' tn tc u rc) ((0, m2, nS Ts, sC Ts, 0, [])) (by generalize @syV = x_syV; generalize @syB = x_syB; generalize @syM = x_syM; generalize @syN = x_syN; generalize @syC = x_syC; generalize @ruB = x_ruB; generalize @ruM = x_ruM; generalize @ruN = x_ruN; generalize @ruC = x_ruC; generalize @ruRn = x_ruRn; generalize @ruRc = x_ruRc; generalize @rC = x_rC; generalize @nR = x_nR; generalize @sC = x_sC; generalize @nS = x_nS; generalize @itC = x_itC; cbv) ?_ (fun ⟨k, m', tn, tc, u, rc⟩ hI => ?_)
 ·exact ⟨by omega, by omega, [], Ts, rfl, rfl, rfl, rfl, h2, by omega, rfl, rfl⟩
 obtain ⟨k1, k2, hI⟩ := hI
 have hI' := hI
 obtain ⟨R, T', et, ec, eu, er, hm', hTl, hRl, hgo⟩ := hI
 have hnT : tn ≤ 1000000 := by rw [et, nS_eq]; omega
 have hnR : u ≤ 1000000 := by rw [eu, nI_eq]; omega
 rcases Decidable.em (k < (n : Int)) with hk | hk
 ·obtain ⟨x1, x2⟩ := hit k.toNat (by omega)
  have s1 := hI'.next k1 (by omega)
  have s2 := fun hb => hI'.stop hA (by omega) hb (nR Rs) (rC Rs) left
  have e1 : gb (cellAt es (k.toNat * 2)) = (tAt a k.toNat).1 := by rw [x1]; rfl
  have e2 : gs (cellAt es (k.toNat * 2 + 1)) = (tAt a k.toNat).2 := by rw [x2]; rfl
  generalize y_syV : @syV = x_syV at *
  generalize y_syB : @syB = x_syB at *
  generalize y_syM : @syM = x_syM at *
  generalize y_syN : @syN = x_syN at *
  generalize y_syC : @syC = x_syC at *
  generalize y_ruB : @ruB = x_ruB at *
  generalize y_ruM : @ruM = x_ruM at *
  generalize y_ruN : @ruN = x_ruN at *
  generalize y_ruC : @ruC = x_ruC at *
  generalize y_ruRn : @ruRn = x_ruRn at *
  generalize y_ruRc : @ruRc = x_ruRc at *
  generalize y_rC : @rC = x_rC at *
  generalize y_nR : @nR = x_nR at *
  generalize y_sC : @sC = x_sC at *
  generalize y_nS : @nS = x_nS at *
  generalize y_itC : @itC = x_itC at *
  (repeat' first | (refine ⟨.inr rfl, ret_oku hj (by cbv) (by cbv) rfl ?_ ?_ (upd_of ?_)⟩) | (refine ⟨.inl rfl, ret_oku hj (by cbv) (by cbv) rfl ?_ ?_ (upd_of ?_)⟩) | ((first | with_reducible refine tr_cut (fun h => ?_) (fun h => ?_) | refine aw_condj (by cbv) (fun h => ?_) (fun h => ?_)) <;> (try simp (disch := omega) only [hj, std, cmpI, cmpB, satB, Bool.not_eq_true, Bool.not_eq_false, decide_eq_true_eq, decide_eq_false_iff_not, beq_iff_eq, bne_iff_ne, bne_eq_false_iff_eq, beq_eq_false_iff_ne, ne_eq, reduceCtorEq, not_true_eq_false, not_false_eq_true, pl0, if_true, cmpS_eq, cmpS_neq, Bool.not_eq_eq_eq_not, Bool.not_true, Bool.not_false, Bool.not_eq_true', e1, e2, add64, sub64] at h) <;> (try (exfalso; omega))) | (with_reducible refine tr_alt (fun h => ?_) ?_ <;> (try (exfalso; omega))) | (with_reducible first | refine tr_ob ?_ ?_ | refine tr_done ?_ | refine dr_go (by cbv) ?_) | (refine aw_dw1 (id := 10) hj tok hm (bookM3 x_syV x_syB x_syM x_syN x_syC) [(0, false), (1, false), (2, false), (3, false), (4, false), (5, false), (6, true), (7, true)] [(8, true), (9, true), (10, true), (11, true), (12, true)] [1, 2, 3, 4, 5] (by kernel_rfl) (by cbv) ?_) | (refine aw_dw (id := 10) hj tok hm (bookM3 x_syV x_syB x_syM x_syN x_syC) [(0, false), (1, false), (2, false), (3, false), (4, false), (5, false), (6, true), (7, true)] [(8, true), (9, true), (10, true), (11, true), (12, true)] [1, 2, 3, 4, 5] (by kernel_rfl) (by cbv) ?_) | (refine aw_tr hj tok (bookM3 x_syV x_syB x_syM x_syN x_syC) (by cbv) ?_) | (refine aw_seq fun K hK => ?_) | (refine aw_tr1 hj tok (bookM3 x_syV x_syB x_syM x_syN x_syC) (by cbv) ?_) | (refine aw_skip ?_) | (refine aw_block ?_) | (refine aw_exit ?_) | (refine aw_ret ⟨.inr rfl, ret_okj hj (by cbv) ?_ ?_⟩) | (refine aw_ret ?_) | (with_reducible first | refine th_n ?_ | refine th_r ?_ | refine th_x ?_ | refine blk_n ?_ | refine blk_r ?_ | refine blk_x ?_ | refine blk_y rfl ?_) | (refine ⟨.inr rfl, ret_okj hj (by cbv) ?_ ?_⟩) | (refine ⟨.inl rfl, ret_okj hj (by cbv) ?_ ?_⟩) | (with_reducible first | refine ⟨(_, _, _, _, _, _), by cbv, ?_, ?_⟩ | refine ⟨_, by cbv, ?_, ?_⟩) | (with_reducible apply_assumption -symm -exfalso only [*]))
  all_goals ((try subst y_syV); (try subst y_syB); (try subst y_syM); (try subst y_syN); (try subst y_syC); (try subst y_ruB); (try subst y_ruM); (try subst y_ruN); (try subst y_ruC); (try subst y_ruRn); (try subst y_ruRc); (try subst y_rC); (try subst y_nR); (try subst y_sC); (try subst y_nS); (try subst y_itC))
  all_goals (try (have q : syB m1 (tAt a k.toNat).1 (tAt a k.toNat).2 = true := (by assumption); have s1 := s1 q))
  all_goals (try (have q : syB m1 (tAt a k.toNat).1 (tAt a k.toNat).2 = false := (by assumption); obtain ⟨r1, r2, r3, r4, r5, r6⟩ := s2 q))
  all_goals (try (repeat' first | with_reducible exact obl0 | (with_reducible refine obl1 ?_ ?_)))
  all_goals (try first | with_reducible exact True.intro | ((first | refine ob_pc hj ?_ | refine ob_pcn hj ?_); (try rw [hj]); first | exact c_symbol h1 hm' (by omega) hnT) | ((first | refine ob_le hj ?_ | refine ob_lei hj ?_ | refine ob_inb hj ?_ | refine ob_pos hj ?_ | refine ob_ne0 hj ?_ | refine ob_eqb hj ?_); (first | rfl | first | omega | (simp only [hj, std]; split <;> omega) | (simp (disch := omega) only [hj, std, cmpI, cmpB, satB, add64, sub64, ite0, pl0, pl2, pl3, sb0, if_true, if_false, eq_self, hl] <;> omega) | (simp (disch := omega) [hj, std, cmpI, cmpB, satB, add64, sub64, ite0, pl0, pl2, pl3, sb0, if_true, if_false, eq_self, hl] <;> omega))) | ((refine ob_ok hj ?_; simp only [hj, std, x1, x2]; exact ⟨_, rfl⟩)) | ((refine r1b ?_; exact r1)) | ((refine upd_box ?_ (upd_none (upd_none (upd_nil _))); simp only [hj, std, e1, e2, r2, r3, r4, r5, r6]; rfl)) | ((simp (disch := omega) only [hj, std, ite0, add64, e1, e2]; first | omega | exact ⟨by omega, by omega, s1⟩)))
 ·obtain ⟨r1, r2, r3, r4, r5, r6⟩ := hI'.done hA (by omega) Rs left
  generalize y_syV : @syV = x_syV at *
  generalize y_syB : @syB = x_syB at *
  generalize y_syM : @syM = x_syM at *
  generalize y_syN : @syN = x_syN at *
  generalize y_syC : @syC = x_syC at *
  generalize y_ruB : @ruB = x_ruB at *
  generalize y_ruM : @ruM = x_ruM at *
  generalize y_ruN : @ruN = x_ruN at *
  generalize y_ruC : @ruC = x_ruC at *
  generalize y_ruRn : @ruRn = x_ruRn at *
  generalize y_ruRc : @ruRc = x_ruRc at *
  generalize y_rC : @rC = x_rC at *
  generalize y_nR : @nR = x_nR at *
  generalize y_sC : @sC = x_sC at *
  generalize y_nS : @nS = x_nS at *
  generalize y_itC : @itC = x_itC at *
  (repeat' first | (refine ⟨.inr rfl, ret_oku hj (by cbv) (by cbv) rfl ?_ ?_ (upd_of ?_)⟩) | (refine ⟨.inl rfl, ret_oku hj (by cbv) (by cbv) rfl ?_ ?_ (upd_of ?_)⟩) | ((first | with_reducible refine tr_cut (fun h => ?_) (fun h => ?_) | refine aw_condj (by cbv) (fun h => ?_) (fun h => ?_)) <;> (try simp (disch := omega) only [hj, std, cmpI, cmpB, satB, Bool.not_eq_true, Bool.not_eq_false, decide_eq_true_eq, decide_eq_false_iff_not, beq_iff_eq, bne_iff_ne, bne_eq_false_iff_eq, beq_eq_false_iff_ne, ne_eq, reduceCtorEq, not_true_eq_false, not_false_eq_true, pl0, if_true, cmpS_eq, cmpS_neq, Bool.not_eq_eq_eq_not, Bool.not_true, Bool.not_false, Bool.not_eq_true', add64, sub64] at h) <;> (try (exfalso; omega))) | (with_reducible refine tr_alt (fun h => ?_) ?_ <;> (try (exfalso; omega))) | (with_reducible first | refine tr_ob ?_ ?_ | refine tr_done ?_ | refine dr_go (by cbv) ?_) | (refine aw_dw1 (id := 10) hj tok hm (bookM3 x_syV x_syB x_syM x_syN x_syC) [(0, false), (1, false), (2, false), (3, false), (4, false), (5, false), (6, true), (7, true)] [(8, true), (9, true), (10, true), (11, true), (12, true)] [1, 2, 3, 4, 5] (by kernel_rfl) (by cbv) ?_) | (refine aw_dw (id := 10) hj tok hm (bookM3 x_syV x_syB x_syM x_syN x_syC) [(0, false), (1, false), (2, false), (3, false), (4, false), (5, false), (6, true), (7, true)] [(8, true), (9, true), (10, true), (11, true), (12, true)] [1, 2, 3, 4, 5] (by kernel_rfl) (by cbv) ?_) | (refine aw_tr hj tok (bookM3 x_syV x_syB x_syM x_syN x_syC) (by cbv) ?_) | (refine aw_seq fun K hK => ?_) | (refine aw_tr1 hj tok (bookM3 x_syV x_syB x_syM x_syN x_syC) (by cbv) ?_) | (refine aw_skip ?_) | (refine aw_block ?_) | (refine aw_exit ?_) | (refine aw_ret ⟨.inr rfl, ret_okj hj (by cbv) ?_ ?_⟩) | (refine aw_ret ?_) | (with_reducible first | refine th_n ?_ | refine th_r ?_ | refine th_x ?_ | refine blk_n ?_ | refine blk_r ?_ | refine blk_x ?_ | refine blk_y rfl ?_) | (refine ⟨.inr rfl, ret_okj hj (by cbv) ?_ ?_⟩) | (refine ⟨.inl rfl, ret_okj hj (by cbv) ?_ ?_⟩) | (with_reducible first | refine ⟨(_, _, _, _, _, _), by cbv, ?_, ?_⟩ | refine ⟨_, by cbv, ?_, ?_⟩) | (with_reducible apply_assumption -symm -exfalso only [*]))
  all_goals ((try subst y_syV); (try subst y_syB); (try subst y_syM); (try subst y_syN); (try subst y_syC); (try subst y_ruB); (try subst y_ruM); (try subst y_ruN); (try subst y_ruC); (try subst y_ruRn); (try subst y_ruRc); (try subst y_rC); (try subst y_nR); (try subst y_sC); (try subst y_nS); (try subst y_itC))
  all_goals (try (repeat' first | with_reducible exact obl0 | with_reducible refine obl1 ?_ ?_))
  all_goals (try first | with_reducible exact True.intro | ((first | refine ob_le hj ?_ | refine ob_lei hj ?_ | refine ob_inb hj ?_ | refine ob_pos hj ?_ | refine ob_ne0 hj ?_ | refine ob_eqb hj ?_); (first | rfl | first | omega | (simp only [hj, std]; split <;> omega) | (simp (disch := omega) only [hj, std, cmpI, cmpB, satB, add64, sub64, ite0, pl0, pl2, pl3, sb0, if_true, if_false, eq_self, hl] <;> omega) | (simp (disch := omega) [hj, std, cmpI, cmpB, satB, add64, sub64, ite0, pl0, pl2, pl3, sb0, if_true, if_false, eq_self, hl] <;> omega))) | ((refine r1b ?_; exact r1)) | ((refine upd_box ?_ (upd_none (upd_none (upd_nil _))); simp only [hj, std, ite0, r2, r3, r4, r5, r6]; rfl)))
end Go.Proofs.Ytgimfjmigoibgaa.A
/- Grammars of rules: parsed rules become a grammar. -/
set_option linter.unusedSimpArgs false
set_option linter.unusedVariables false
set_option maxRecDepth 100000
set_option maxHeartbeats 4000000
namespace Go.Proofs.Ytgimfjmigoibgaa.A
open Go
abbrev NTR := List ByteArray × List Rl
def lineF (Ns : List ByteArray) (i : Int) : List (List It) → NTR → Bool × NTR
 | [], st => (true, st)
 | a :: r, st => if (altS Ns a ([], st.1)).1 = true then lineF Ns i r ((altS Ns a ([], st.1)).2.2, st.2 ++ [(i, (altS Ns a ([], st.1)).2.1)]) else (false, st)
def linesF (Ns : List ByteArray) : Int → List Ln → NTR → Bool × NTR
 | _, [], st => (true, st)
 | i, x :: r, st => if (lineF Ns i x.2 st).1 = true then linesF Ns (i + 1) r (lineF Ns i x.2 st).2 else (false, (lineF Ns i x.2 st).2)
def contF (Ns : List ByteArray) (i : Int) (A : List (List It)) (r : List Ln) (st : NTR) : Bool × NTR := if (lineF Ns i A st).1 = true then linesF Ns (i + 1) r (lineF Ns i A st).2 else (false, (lineF Ns i A st).2)
theorem contF_nil (Ns : List ByteArray) (i : Int) (r : List Ln) (st : NTR) : contF Ns i [] r st = linesF Ns (i + 1) r st := by unfold contF lineF; rfl
theorem contF_yes {Ns : List ByteArray} {i : Int} {a : List It} {A : List (List It)} {r : List Ln} {st : NTR} (h : (altS Ns a ([], st.1)).1 = true) : contF Ns i (a :: A) r st = contF Ns i A r ((altS Ns a ([], st.1)).2.2, st.2 ++ [(i, (altS Ns a ([], st.1)).2.1)]) := by
 unfold contF; rw [lineF, if_pos h]
theorem contF_no {Ns : List ByteArray} {i : Int} {a : List It} {A : List (List It)} {r : List Ln} {st : NTR} (h : (altS Ns a ([], st.1)).1 = false) : (contF Ns i (a :: A) r st).1 = false := by
 unfold contF; rw [lineF, if_neg (by simp [h])]
theorem linesF_cons (Ns : List ByteArray) (i : Int) (x : Ln) (r : List Ln) (st : NTR) : linesF Ns i (x :: r) st = contF Ns i x.2 r st := rfl
def namesL (L : List Ln) : List ByteArray := L.map (·.1)
def resG (L : List Ln) : Int × NTR :=
 if greatG L = true then (19, [], [])
 else if ¬ (namesL L).Nodup then (15, [], [])
 else if (linesF (namesL L) 0 L ([], [])).1 = false then (16, [], [])
 else if 256 < L.length + (linesF (namesL L) 0 L ([], [])).2.1.length then (19, [], [])
 else if dupR (linesF (namesL L) 0 L ([], [])).2.2 = true then (15, [], [])
 else (0, (linesF (namesL L) 0 L ([], [])).2)
def rsE (L : List Ln) : Int := (resG L).1
def grA (L : List Ln) : List ByteArray := if rsE L = 0 then namesL L else []
def grB (L : List Ln) : List ByteArray := (resG L).2.1
def grR (L : List Ln) : List Rl := (resG L).2.2
def bookM4 (x_greatG : List Ln → Bool) (x_ruB : GM → GM → List C → List C → Bool) (x_ruM : GM → GM → List C → List C → GM) (x_ruN : GM → GM → List C → List C → Nat) (x_ruC : GM → GM → List C → List C → List C) (x_ruRn : GM → GM → List C → List C → Nat → Nat) (x_ruRc : GM → GM → List C → List C → List C → Int → List C) (x_rlsOf : List C → List Rl) (x_dupR : List Rl → Bool) (x_lnsOf : List C → List Ln) : Book := fun f xs => match f, xs with
 | 37, [.v false [.sl _ cs]] => some (ret1 (.st (vB (x_greatG (x_lnsOf cs)))))
 | 38, [.root (.box [.map _ m1, .map _ m2, N, .own _ tn tc, .own _ rn rc]), .v false [.val (.int .i64 i)], .v false [.sl _ es]] => some (ret1 (.st (vB (x_ruB m1 m2 tc es))), [.box [.map .str m1, .map .str (x_ruM m1 m2 tc es), N, .own strG (x_ruN m1 m2 tc es) (x_ruC m1 m2 tc es), .own ruleTy (x_ruRn m1 m2 tc es rn) (x_ruRc m1 m2 tc es rc i)], .none, .none])
 | 36, [.v false [.sl _ cs]] => some (ret1 (.st (vB (x_dupR (x_rlsOf cs)))))
 | _, _ => none
theorem great_no {L : List Ln} (h : greatG L = false) : (∀ i, i < L.length → ∀ k, k < (lAt L i).2.length → (aAt (lAt L i).2 k).length ≤ 64) ∧ altsN L ≤ 4096 ∧ L.length ≤ 256 := by
 have h1 : ∀ i, i < L.length → ∀ k, k < (lAt L i).2.length → (aAt (lAt L i).2 k).length ≤ 64 := fun i hi k hk => Decidable.byContradiction fun q => by
  rw [great_long hi hk (by omega)] at h; cases h
 rw [great_end h1, Bool.or_eq_false_iff, decide_eq_false_iff_not, decide_eq_false_iff_not] at h
 exact ⟨h1, by omega, by omega⟩
theorem altsN_cut (L : List Ln) (i : Nat) : altsN (L.take i) ≤ altsN L := by
 unfold altsN
 conv => rhs; rw [← List.take_append_drop i L, List.map_append, List.sum_append]
 omega
theorem cnt_le {L : List Ln} {i k : Nat} (hi : i < L.length) (hk : k ≤ (lAt L i).2.length) : altsN (L.take i) + k ≤ altsN L := by
 have h1 := altsN_take hi
 have h2 := altsN_cut L (i + 1)
 omega
theorem altS_len (Ns : List ByteArray) : ∀ (l : List It) (R : List Int) (Ts : List ByteArray), (altS Ns l (R, Ts)).2.1.length ≤ R.length + l.length ∧ (altS Ns l (R, Ts)).2.2.length ≤ Ts.length + l.length := by
 intro l
 induction l with
 | nil => intro R Ts; exact ⟨Nat.le_refl _, Nat.le_refl _⟩
 | cons it l ih =>
  intro R Ts
  unfold altS
  split
  ·obtain ⟨h1, h2⟩ := ih (R ++ [(symS Ns Ts it).1]) (symS Ns Ts it).2
   have h3 : (symS Ns Ts it).2.length ≤ Ts.length + 1 := by unfold symS; split; split; all_goals simp
   simp only [List.length_append, List.length_cons, List.length_nil] at h1 ⊢
   exact ⟨by omega, by omega⟩
  ·simp only [List.length_cons]; exact ⟨by omega, by omega⟩
def rsInv (L : List Ln) (i k : Nat) (m2 : GM) (tn : Nat) (tc : List C) (rn : Nat) (rc : List C) : Prop :=
 ∃ Ts Rs, tn = nS Ts ∧ tc = sC Ts ∧ rn = nR Rs ∧ rc = rC Rs ∧ MapIs m2 Ts ∧ Rs.length = altsN (L.take i) + k ∧ Ts.length ≤ 64 * (altsN (L.take i) + k) ∧ (∀ r ∈ Rs, nI r.2 ≤ 64) ∧ linesF (namesL L) 0 L ([], []) = contF (namesL L) i ((lAt L i).2.drop k) (L.drop (i + 1)) (Ts, Rs)
def rsInv0 (L : List Ln) (i : Nat) (m2 : GM) (tn : Nat) (tc : List C) (rn : Nat) (rc : List C) : Prop :=
 ∃ Ts Rs, tn = nS Ts ∧ tc = sC Ts ∧ rn = nR Rs ∧ rc = rC Rs ∧ MapIs m2 Ts ∧ Rs.length = altsN (L.take i) ∧ Ts.length ≤ 64 * altsN (L.take i) ∧ (∀ r ∈ Rs, nI r.2 ≤ 64) ∧ linesF (namesL L) 0 L ([], []) = linesF (namesL L) i (L.drop i) (Ts, Rs)
theorem drop_lAt {a : List Ln} {k : Nat} (h : k < a.length) : a.drop k = lAt a k :: a.drop (k + 1) := by
 rw [List.drop_eq_getElem_cons h]; simp [lAt, List.getD_eq_getElem?_getD, List.getElem?_eq_getElem h]
theorem drop_aAt {a : List (List It)} {k : Nat} (h : k < a.length) : a.drop k = aAt a k :: a.drop (k + 1) := by
 rw [List.drop_eq_getElem_cons h]; simp [aAt, List.getD_eq_getElem?_getD, List.getElem?_eq_getElem h]
theorem rsInv0.start {m2 : GM} {L : List Ln} (h : MapIs m2 []) : rsInv0 L 0 m2 0 [] 0 [] := ⟨[], [], rfl, rfl, rfl, rfl, h, by simp [altsN], by simp, (fun r h => by cases h), rfl⟩
theorem rsInv0.go {L : List Ln} {i : Nat} {m2 : GM} {tn : Nat} {tc : List C} {rn : Nat} {rc : List C} (h : rsInv0 L i m2 tn tc rn rc) (hi : i < L.length) : rsInv L i 0 m2 tn tc rn rc := by
 obtain ⟨Ts, Rs, e1, e2, e3, e4, h1, h2, h3, h4, h5⟩ := h
 exact ⟨Ts, Rs, e1, e2, e3, e4, h1, by omega, by omega, h4, by rw [h5, drop_lAt hi, linesF_cons]; rfl⟩
theorem rsInv.back {L : List Ln} {i k : Nat} {m2 : GM} {tn : Nat} {tc : List C} {rn : Nat} {rc : List C} (h : rsInv L i k m2 tn tc rn rc) (hi : i < L.length) (hk : k = (lAt L i).2.length) : rsInv0 L (i + 1) m2 tn tc rn rc := by
 obtain ⟨Ts, Rs, e1, e2, e3, e4, h1, h2, h3, h4, h5⟩ := h
 have h6 := altsN_take hi
 exact ⟨Ts, Rs, e1, e2, e3, e4, h1, by omega, by omega, h4, by rw [h5, List.drop_eq_nil_of_le (by omega), contF_nil]; rfl⟩
theorem ru_alt {m1 m2 : GM} {Ns Ts : List ByteArray} (h1 : MapIs m1 Ns) (h2 : MapIs m2 Ts) (a : List It) :
  ruB m1 m2 (sC Ts) (itC a) = (altS Ns a ([], Ts)).1 ∧ MapIs (ruM m1 m2 (sC Ts) (itC a)) (altS Ns a ([], Ts)).2.2 ∧ ruN m1 m2 (sC Ts) (itC a) = nS (altS Ns a ([], Ts)).2.2 ∧ ruC m1 m2 (sC Ts) (itC a) = sC (altS Ns a ([], Ts)).2.2 ∧
  ∀ (Rs : List Rl) (left : Int), ruB m1 m2 (sC Ts) (itC a) = true → ruRn m1 m2 (sC Ts) (itC a) (nR Rs) = nR (Rs ++ [(left, (altS Ns a ([], Ts)).2.1)]) ∧ ruRc m1 m2 (sC Ts) (itC a) (rC Rs) left = rC (Rs ++ [(left, (altS Ns a ([], Ts)).2.1)]) := by
 obtain ⟨k1, k2, k3, k4⟩ := ruF_alt h1 a [] m2 Ts h2
 have hA : ruA m1 m2 (sC Ts) (itC a) = ruF m1 a ([], m2, Ts) := by unfold ruA; rw [itsOf_it, strsOf_sC]
 refine ⟨by unfold ruB; rw [hA, k1], by unfold ruM; rw [hA]; exact k4, by unfold ruN; rw [hA, k3], by unfold ruC; rw [hA, k3], fun Rs left hb => ?_⟩
 unfold ruRn ruRc
 rw [if_pos hb, if_pos hb, hA, k2, rlsOf_rC, nR_eq, nR_eq]
 exact ⟨by simp, rfl⟩
theorem rsInv.next {L : List Ln} {i k : Nat} {m1 m2 : GM} {tn : Nat} {tc : List C} {rn : Nat} {rc es : List C} (h : rsInv L i k m2 tn tc rn rc) (h1 : MapIs m1 (namesL L)) (hk : k < (lAt L i).2.length) (ha : (aAt (lAt L i).2 k).length ≤ 64) (he : es = itC (aAt (lAt L i).2 k)) (hb : ruB m1 m2 tc es = true) :
  rsInv L i (k + 1) (ruM m1 m2 tc es) (ruN m1 m2 tc es) (ruC m1 m2 tc es) (ruRn m1 m2 tc es rn) (ruRc m1 m2 tc es rc i) := by
 obtain ⟨Ts, Rs, rfl, rfl, rfl, rfl, h2, h3, h4, h5, h6⟩ := h
 subst he
 obtain ⟨k1, k2, k3, k4, k5⟩ := ru_alt h1 h2 (aAt (lAt L i).2 k)
 obtain ⟨k6, k7⟩ := k5 Rs i hb
 obtain ⟨k8, k9⟩ := altS_len (namesL L) (aAt (lAt L i).2 k) [] Ts
 refine ⟨_, _, k3, k4, k6, k7, k2, by simp; omega, by omega, fun r hr => ?_, ?_⟩
 ·rcases List.mem_append.1 hr with hr | hr
  ·exact h5 r hr
  ·obtain rfl := List.mem_singleton.1 hr
   rw [nI_eq]
   simp only [List.length_nil] at k8
   show (altS _ _ _).2.1.length ≤ 64
   omega
 ·rw [h6, drop_aAt hk, contF_yes (by rw [← k1]; exact hb)]
theorem rsInv.stop {L : List Ln} {i k : Nat} {m1 m2 : GM} {tn : Nat} {tc : List C} {rn : Nat} {rc es : List C} (h : rsInv L i k m2 tn tc rn rc) (h1 : MapIs m1 (namesL L)) (hk : k < (lAt L i).2.length) (he : es = itC (aAt (lAt L i).2 k)) (hb : ruB m1 m2 tc es = false) :
  (linesF (namesL L) 0 L ([], [])).1 = false := by
 obtain ⟨Ts, Rs, rfl, rfl, rfl, rfl, h2, h3, h4, h5, h6⟩ := h
 subst he
 obtain ⟨k1, k2, k3, k4, k5⟩ := ru_alt h1 h2 (aAt (lAt L i).2 k)
 rw [h6, drop_aAt hk]
 exact contF_no (by rw [← k1]; exact hb)
def nmInv (L : List Ln) (i : Nat) (m1 m2 : GM) (u : Nat) (nc : List C) : Prop := MapIs m1 (namesL (L.take i)) ∧ MapIs m2 [] ∧ u = i ∧ nc = sC (namesL (L.take i)) ∧ (namesL (L.take i)).Nodup
theorem names_take {L : List Ln} {i : Nat} (h : i < L.length) : namesL (L.take (i + 1)) = namesL (L.take i) ++ [(lAt L i).1] := by
 unfold namesL
 rw [List.take_succ_eq_append_getElem h, List.map_append]
 simp [lAt, List.getD_eq_getElem?_getD, List.getElem?_eq_getElem h]
theorem nmInv.next {L : List Ln} {i : Nat} {m1 m2 : GM} {u : Nat} {nc : List C} (h : nmInv L i m1 m2 u nc) (hi : i < L.length) (hb : hasM m1 (lAt L i).1 = false) : nmInv L (i + 1) (m1.set (.string (lAt L i).1) (vI (i : Int))) m2 (u + 1) (nc ++ [vS (lAt L i).1]) := by
 obtain ⟨h1, h2, rfl, rfl, h3⟩ := h
 rw [h1.has] at hb
 have hl : (namesL (L.take u)).length = u := by unfold namesL; rw [List.length_map, List.length_take]; omega
 have := h1.add hb
 rw [hl] at this
 unfold nmInv
 rw [names_take hi]
 refine ⟨this, h2, rfl, sC_snoc _ _, ?_⟩
 rw [List.nodup_append]
 refine ⟨h3, by simp, fun a ha b hb2 => ?_⟩
 obtain rfl := List.mem_singleton.1 hb2
 rintro rfl
 exact inS_not.1 hb ha
theorem nmInv.stop {L : List Ln} {i : Nat} {m1 m2 : GM} {u : Nat} {nc : List C} (h : nmInv L i m1 m2 u nc) (hi : i < L.length) (hb : hasM m1 (lAt L i).1 = true) : ¬ (namesL L).Nodup := by
 obtain ⟨h1, h2, rfl, rfl, h3⟩ := h
 rw [h1.has, inS_iff] at hb
 intro q
 have e : namesL L = namesL (L.take (u + 1)) ++ namesL (L.drop (u + 1)) := by unfold namesL; rw [← List.map_append, List.take_append_drop]
 rw [e, List.nodup_append, names_take hi, List.nodup_append] at q
 exact q.1.2.2 _ hb _ (List.mem_singleton_self _) rfl
theorem rs_great {L : List Ln} (h : greatG L = true) : rsE L = 19 ∧ grA L = [] ∧ grB L = [] ∧ grR L = [] := by
 have e0 : resG L = (19, [], []) := by unfold resG; rw [if_pos h]
 have e : rsE L = 19 := by unfold rsE; rw [e0]
 unfold grA grB grR; rw [e, e0]; exact ⟨rfl, rfl, rfl, rfl⟩
theorem rs_dup {L : List Ln} (h : greatG L = false) (h2 : ¬ (namesL L).Nodup) : rsE L = 15 ∧ grA L = [] ∧ grB L = [] ∧ grR L = [] := by
 have e0 : resG L = (15, [], []) := by unfold resG; rw [if_neg (by simp [h]), if_pos h2]
 have e : rsE L = 15 := by unfold rsE; rw [e0]
 unfold grA grB grR; rw [e, e0]; exact ⟨rfl, rfl, rfl, rfl⟩
theorem rs_bad {L : List Ln} (h : greatG L = false) (h2 : (namesL L).Nodup) (h3 : (linesF (namesL L) 0 L ([], [])).1 = false) : rsE L = 16 ∧ grA L = [] ∧ grB L = [] ∧ grR L = [] := by
 have e0 : resG L = (16, [], []) := by unfold resG; rw [if_neg (by simp [h]), if_neg (fun q => q h2), if_pos h3]
 have e : rsE L = 16 := by unfold rsE; rw [e0]
 unfold grA grB grR; rw [e, e0]; exact ⟨rfl, rfl, rfl, rfl⟩
theorem rs_end {L : List Ln} {m2 : GM} {tn : Nat} {tc : List C} {rn : Nat} {rc : List C} (h : greatG L = false) (h2 : (namesL L).Nodup) (hi : rsInv0 L L.length m2 tn tc rn rc) :
  (256 < L.length + tn → rsE L = 19 ∧ grA L = [] ∧ grB L = [] ∧ grR L = []) ∧ (¬ 256 < L.length + tn → dupR (rlsOf rc) = true → rsE L = 15 ∧ grA L = [] ∧ grB L = [] ∧ grR L = []) ∧
  (¬ 256 < L.length + tn → dupR (rlsOf rc) = false → rsE L = 0 ∧ (C.sl (nS (grA L)) (sC (grA L))) = .sl L.length (sC (namesL L)) ∧ (C.sl (nS (grB L)) (sC (grB L))) = .sl tn tc ∧ (C.sl (nR (grR L)) (rC (grR L))) = .sl rn rc) := by
 obtain ⟨Ts, Rs, rfl, rfl, rfl, rfl, k1, k2, k3, k4, k5⟩ := hi
 rw [List.drop_eq_nil_of_le (by omega)] at k5
 have k5 : linesF (namesL L) 0 L ([], []) = (true, Ts, Rs) := k5
 rw [rlsOf_rC, nS_eq]
 refine ⟨fun q => ?_, fun q1 q2 => ?_, fun q1 q2 => ?_⟩
 ·have e0 : resG L = (19, [], []) := by unfold resG; rw [if_neg (by simp [h]), if_neg (fun q => q h2), k5, if_neg (by simp), if_pos q]
  have e : rsE L = 19 := by unfold rsE; rw [e0]
  unfold grA grB grR; rw [e, e0]; exact ⟨rfl, rfl, rfl, rfl⟩
 ·have e0 : resG L = (15, [], []) := by unfold resG; rw [if_neg (by simp [h]), if_neg (fun q => q h2), k5, if_neg (by simp), if_neg q1, if_pos q2]
  have e : rsE L = 15 := by unfold rsE; rw [e0]
  unfold grA grB grR; rw [e, e0]; exact ⟨rfl, rfl, rfl, rfl⟩
 ·have e0 : resG L = (0, Ts, Rs) := by unfold resG; rw [if_neg (by simp [h]), if_neg (fun q => q h2), k5, if_neg (by simp), if_neg q1, if_neg (by simp [q2])]
  have e : rsE L = 0 := by unfold rsE; rw [e0]
  unfold grA grB grR; rw [e, e0, if_pos rfl]
  have hl : nS (namesL L) = L.length := by rw [nS_eq]; unfold namesL; rw [List.length_map]
  refine ⟨rfl, ?_, ?_, rfl⟩
  ·show C.sl (nS (namesL L)) _ = _; rw [hl]
  ·show C.sl (nS Ts) _ = _; rw [nS_eq]
theorem c_rule {m1 m2 : GM} {Ns Ts : List ByteArray} {Rs : List Rl} {N : RC} {tn rn k : Nat} {tc rc es : List C} {a : List It} {left : Int} (h1 : MapIs m1 Ns) (h2 : MapIs m2 Ts) (hT : Ts.length ≤ 400000) (ha : a.length ≤ 400000) (hR : Rs.length ≤ 1000000) (e1 : tn = nS Ts) (e2 : tc = sC Ts) (e3 : rn = nR Rs) (e4 : rc = rC Rs) (e5 : k = a.length) (e6 : es = itC a) :
  (std Try.prog T).pc 38 [.root (.box [.map .str m1, .map .str m2, N, .own strG tn tc, .own ruleTy rn rc]), .v false [vI left], .v false [.sl k es]] (ret1 (.st (vB (ruB m1 m2 tc es))))
   [.box [.map .str m1, .map .str (ruM m1 m2 tc es), N, .own strG (ruN m1 m2 tc es) (ruC m1 m2 tc es), .own ruleTy (ruRn m1 m2 tc es rn) (ruRc m1 m2 tc es rc left)], .none, .none] := by
 subst e1; subst e2; subst e3; subst e4; subst e5; subst e6
 exact ⟨enters Try.func38 (by kernel_rfl) (by kernel_rfl), pc_ruleG m1 m2 N Ns Ts Rs left a h1 h2 hT ha (by rw [nR_eq]; exact hR)⟩
theorem c_great {L : List Ln} {n : Nat} {cs : List C} (hr : LnRep L cs) (hs : rSz L 1000000) (hn : n = L.length) : (std Try.prog T).pc 37 [.v false [.sl n cs]] (ret1 (.st (vB (greatG (lnsOf cs))))) [] := by
 rw [hr.read, hn]
 exact ⟨enters Try.func37 (by kernel_rfl) (by kernel_rfl), pc_great L cs hr hs⟩
theorem c_twR {rs : List Rl} {n : Nat} {cs : List C} (e1 : n = nR rs) (e2 : cs = rC rs) (h : rs.length ≤ 1000000) (hr : ∀ r ∈ rs, nI r.2 ≤ 64) : (std Try.prog T).pc 36 [.v false [.sl n cs]] (ret1 (.st (vB (dupR (rlsOf cs))))) [] := by
 subst e1; subst e2
 exact c_twG (by rw [nR_eq]; exact h) fun r q => by have := hr r q; omega
theorem ret_nil3 {P : Program} {T : TT} {st : St} {j : J} (hj : j = std P T) {fn : Func} {ret : RV} {vs : List V} {row : List RC} {obl : List Prop} (h : retOf T j fn.results.toList st = some (vs, .st .nil :: .st .nil :: .st .nil :: row, obl)) (ho : ∀ p ∈ obl, p) (he : ret = ⟨decide (fn.results.size ≠ 1), splitRow vs (.st (.sl 0 []) :: .st (.sl 0 []) :: .st (.sl 0 []) :: row)⟩) {N : Nat} : RetOk P T fn st ret [] N := by
 rw [hj] at h
 exact ⟨⟨vs, _, obl, _, h, ho, .cons .nil_sl (.cons .nil_sl (.cons .nil_sl (LeRow.refl _))), he⟩, .inl rfl⟩
theorem aw_retc {P : Program} {T : TT} {Q : Exit → St → Prop} {st : St} {j : J} (hj : j = std P T) (ks : List (Nat × KS)) (bs : List Nat) {st1 : St} (h : canon T j ks bs st = some st1) (k : Q .ret st1) : Aw P T .ret Q st := forgetj hj ks bs h (aw_ret k)
theorem pc_Resolve (L : List Ln) (cs : List C) (hr : LnRep L cs) (hs : rSz L 1000000) : PC Try.prog T 16 [.v false [.sl L.length cs]] (rets [(true, [.st ((C.sl (nS (grA L)) (sC (grA L)))), .st ((C.sl (nS (grB L)) (sC (grB L)))), .st ((C.sl (nR (grR L)) (rC (grR L))))]), (false, [.st (vI (rsE L))])]) [] := by
 have hn := hs.1
 have hl := hr.1
 have hread := hr.read
 have a1 := fun (i : Nat) (h : i < L.length) => hr.2 i h
 have a3 := fun (i : Nat) (h : i < L.length) => hs.2 _ (lAt_mem (L := L) (i := i) h)
 have hgt := @rs_great L
 have hgn := @great_no L
 have hdup := @rs_dup L
 have hbad := @rs_bad L
 have hend := fun m2 tn tc rn rc => @rs_end L m2 tn tc rn rc
 have n1 := fun i m1 m2 u nc h (q : i < L.length) => @nmInv.next L i m1 m2 u nc h q
 have n2 := fun i m1 m2 u nc h (q : i < L.length) => @nmInv.stop L i m1 m2 u nc h q
 have n3 := fun i m2 tn tc rn rc h (q : i < L.length) => @rsInv0.go L i m2 tn tc rn rc h q
 have n4 := fun i k m2 tn tc rn rc h (q : i < L.length) => @rsInv.back L i k m2 tn tc rn rc h q
 have n5 := fun i k (q : i < L.length) => @cnt_le L i k q
 have hz : L.take L.length = L := List.take_length
 generalize hm1 : L.length = n at *
 refine pc_of tok Try.func16 rfl (by rfl) ?_
 obtain ⟨j, hj⟩ : ∃ j : J, j = std Try.prog T := ⟨_, rfl⟩
 have hm : Try.prog.follows .mixedOrders = true := by kernel_rfl
 generalize y_greatG : @greatG = x_greatG at *
 generalize y_ruB : @ruB = x_ruB at *
 generalize y_ruM : @ruM = x_ruM at *
 generalize y_ruN : @ruN = x_ruN at *
 generalize y_ruC : @ruC = x_ruC at *
 generalize y_ruRn : @ruRn = x_ruRn at *
 generalize y_ruRc : @ruRc = x_ruRc at *
 generalize y_rlsOf : @rlsOf = x_rlsOf at *
 generalize y_dupR : @dupR = x_dupR at *
 generalize y_lnsOf : @lnsOf = x_lnsOf at *
 generalize y_rsE : @rsE = x_rsE at *
 generalize y_grA : @grA = x_grA at *
 generalize y_grB : @grB = x_grB at *
 generalize y_grR : @grR = x_grR at *
 generalize y_rC : @rC = x_rC at *
 generalize y_nR : @nR = x_nR at *
 generalize y_sC : @sC = x_sC at *
 generalize y_nS : @nS = x_nS at *
 (repeat' first | (refine aw_ret ⟨.inr rfl, ret_nil3 hj (by cbv) ?_ ?_⟩) | (refine ⟨.inr rfl, ret_nil3 hj (by cbv) ?_ ?_⟩) | ((first | with_reducible refine tr_cut (fun h => ?_) (fun h => ?_) | refine aw_condj (by cbv) (fun h => ?_) (fun h => ?_)) <;> (try simp (disch := omega) only [hj, std, cmpI, cmpB, satB, Bool.not_eq_true, Bool.not_eq_false, decide_eq_true_eq, decide_eq_false_iff_not, beq_iff_eq, bne_iff_ne, bne_eq_false_iff_eq, beq_eq_false_iff_ne, ne_eq, reduceCtorEq, not_true_eq_false, not_false_eq_true, pl0, if_true, cmpS_eq, cmpS_neq, Bool.not_eq_eq_eq_not, Bool.not_true, Bool.not_false, Bool.not_eq_true', add64, sub64] at h) <;> (try (exfalso; omega))) | (with_reducible refine tr_alt (fun h => ?_) ?_ <;> (try (exfalso; omega))) | (with_reducible first | refine tr_ob ?_ ?_ | refine tr_done ?_) | (refine aw_tr hj tok (bookM4 x_greatG x_ruB x_ruM x_ruN x_ruC x_ruRn x_ruRc x_rlsOf x_dupR x_lnsOf) (by cbv) ?_) | (refine aw_seq fun K hK => ?_) | (refine aw_tr1 hj tok (bookM4 x_greatG x_ruB x_ruM x_ruN x_ruC x_ruRn x_ruRc x_rlsOf x_dupR x_lnsOf) (by cbv) ?_) | (refine aw_skip ?_) | (refine aw_block ?_) | (refine aw_exit ?_) | (refine aw_ret ⟨.inr rfl, ret_okj hj (by cbv) ?_ ?_⟩) | (refine aw_ret ?_) | (with_reducible first | refine th_n ?_ | refine th_r ?_ | refine th_x ?_ | refine blk_n ?_ | refine blk_r ?_ | refine blk_x ?_ | refine blk_y rfl ?_) | (refine ⟨.inr rfl, ret_okj hj (by cbv) ?_ ?_⟩) | (refine ⟨.inl rfl, ret_okj hj (by cbv) ?_ ?_⟩) | (with_reducible first | refine ⟨(_, _, _, _, _, _, _, _, _), by cbv, ?_, ?_⟩ | refine ⟨(_, _, _, _, _, _), by cbv, ?_, ?_⟩ | refine ⟨(_, _, _, _, _), by cbv, ?_, ?_⟩ | refine ⟨_, by cbv, ?_, ?_⟩) | (with_reducible apply_assumption -symm -exfalso only [*]))
 all_goals ((try subst y_greatG); (try subst y_ruB); (try subst y_ruM); (try subst y_ruN); (try subst y_ruC); (try subst y_ruRn); (try subst y_ruRc); (try subst y_rlsOf); (try subst y_dupR); (try subst y_lnsOf); (try subst y_rsE); (try subst y_grA); (try subst y_grB); (try subst y_grR); (try subst y_rC); (try subst y_nR); (try subst y_sC); (try subst y_nS))
 all_goals (try (have q : greatG (lnsOf cs) = true := (by assumption); rw [hread] at q; obtain ⟨r1, r2, r3, r4⟩ := hgt q))
 all_goals (try (have hg : greatG (lnsOf cs) = false := (by assumption); rw [hread] at hg; obtain ⟨g1, g2, g3⟩ := hgn hg))
 all_goals (try (repeat' first | with_reducible exact obl0 | (with_reducible refine obl1 ?_ ?_)))
 all_goals (try first | with_reducible exact True.intro | ((first | refine ob_pc hj ?_ | refine ob_pcn hj ?_); (try rw [hj]); first | exact c_great hr hs hm1.symm) | ((first | refine ob_le hj ?_ | refine ob_lei hj ?_ | refine ob_inb hj ?_ | refine ob_pos hj ?_ | refine ob_ne0 hj ?_ | refine ob_eqb hj ?_); (first | rfl | first | omega | (simp only [hj, std]; split <;> omega) | (simp (disch := omega) only [hj, std, cmpI, cmpB, satB, add64, sub64, ite0, pl0, pl2, pl3, sb0, if_true, if_false, eq_self] <;> omega) | (simp (disch := omega) [hj, std, cmpI, cmpB, satB, add64, sub64, ite0, pl0, pl2, pl3, sb0, if_true, if_false, eq_self] <;> omega))) | ((rw [r1, r2, r3, r4]; exact rfl)))
 refine aw_lpj hj [(0, .keep), (2, .keep), (4, .keep), (20, .keep), (21, .keep), (22, .keep), (19, .box 2 strG), (19, .box 3 strG), (19, .box 4 ruleTy)] [2, 19] (fun (⟨i, m1, m2, u, nc⟩ : Int × GM × GM × Nat × (List C)) => stOf 110 [(0, .one (.c (.sl n cs))), (2, .one (.ptr 2 0)), (4, .one (.ptr 19 0)), (20, .one (.c (.sl n cs))), (21, .one (.c (vI (j.ofNat n)))), (22, .one (.c (vI i)))] [(2, .box [.st .nil, .st .nil, .st .nil]), (19, .box [.map .str m1, .map .str m2, .own strG u nc, .own strG 0 [], .own ruleTy 0 []])]) (fun (⟨i, m1, m2, u, nc⟩ : Int × GM × GM × Nat × (List C)) => n - i.toNat) (fun (⟨i, m1, m2, u, nc⟩ : Int × GM × GM × Nat × (List C)) => 0 ≤ i ∧ i ≤ n ∧ nmInv L i.toNat m1 m2 u nc) ((0, j.mnew, j.mnew, 0, [])) (by generalize @greatG = x_greatG; generalize @ruB = x_ruB; generalize @ruM = x_ruM; generalize @ruN = x_ruN; generalize @ruC = x_ruC; generalize @ruRn = x_ruRn; generalize @ruRc = x_ruRc; generalize @rlsOf = x_rlsOf; generalize @dupR = x_dupR; generalize @lnsOf = x_lnsOf; generalize @rsE = x_rsE; generalize @grA = x_grA; generalize @grB = x_grB; generalize @grR = x_grR; generalize @rC = x_rC; generalize @nR = x_nR; generalize @sC = x_sC; generalize @nS = x_nS; cbv) ?_ (fun ⟨i, m1, m2, u, nc⟩ hI => ?_)
 ·simp only [hj, std]; exact ⟨by omega, by omega, MapIs.new, MapIs.new, rfl, rfl, by simp [namesL]⟩
 obtain ⟨i1, i2, hI⟩ := hI
 rcases Decidable.em (i < (n : Int)) with hi | hi
 ·obtain ⟨b1, b2, b3, b4⟩ := a1 i.toNat (by omega)
  have e1 : gs (cellAt cs (i.toNat * 2)) = (lAt L i.toNat).1 := by rw [b1]; rfl
  have hu := hI.2.2.1
  have n1 := n1 _ _ _ _ _ hI (by omega)
  have n2 := n2 _ _ _ _ _ hI (by omega)
  generalize y_greatG : @greatG = x_greatG at *
  generalize y_ruB : @ruB = x_ruB at *
  generalize y_ruM : @ruM = x_ruM at *
  generalize y_ruN : @ruN = x_ruN at *
  generalize y_ruC : @ruC = x_ruC at *
  generalize y_ruRn : @ruRn = x_ruRn at *
  generalize y_ruRc : @ruRc = x_ruRc at *
  generalize y_rlsOf : @rlsOf = x_rlsOf at *
  generalize y_dupR : @dupR = x_dupR at *
  generalize y_lnsOf : @lnsOf = x_lnsOf at *
  generalize y_rsE : @rsE = x_rsE at *
  generalize y_grA : @grA = x_grA at *
  generalize y_grB : @grB = x_grB at *
  generalize y_grR : @grR = x_grR at *
  generalize y_rC : @rC = x_rC at *
  generalize y_nR : @nR = x_nR at *
  generalize y_sC : @sC = x_sC at *
  generalize y_nS : @nS = x_nS at *
  (repeat' first | (refine aw_ret ⟨.inr rfl, ret_nil3 hj (by cbv) ?_ ?_⟩) | (refine ⟨.inr rfl, ret_nil3 hj (by cbv) ?_ ?_⟩) | ((first | with_reducible refine tr_cut (fun h => ?_) (fun h => ?_) | refine aw_condj (by cbv) (fun h => ?_) (fun h => ?_)) <;> (try simp (disch := omega) only [hj, std, cmpI, cmpB, satB, Bool.not_eq_true, Bool.not_eq_false, decide_eq_true_eq, decide_eq_false_iff_not, beq_iff_eq, bne_iff_ne, bne_eq_false_iff_eq, beq_eq_false_iff_ne, ne_eq, reduceCtorEq, not_true_eq_false, not_false_eq_true, pl0, if_true, cmpS_eq, cmpS_neq, Bool.not_eq_eq_eq_not, Bool.not_true, Bool.not_false, Bool.not_eq_true', e1, ite0, add64, sub64] at h) <;> (try (exfalso; omega))) | (with_reducible refine tr_alt (fun h => ?_) ?_ <;> (try (exfalso; omega))) | (with_reducible first | refine tr_ob ?_ ?_ | refine tr_done ?_) | (refine aw_dw1 (id := 11) hj tok hm (bookM4 x_greatG x_ruB x_ruM x_ruN x_ruC x_ruRn x_ruRc x_rlsOf x_dupR x_lnsOf) [(0, false), (1, false), (2, false), (3, false), (4, false), (5, false), (6, true), (7, true), (8, true)] [(9, true), (10, true), (11, true), (12, true), (13, true)] [1, 2, 3, 4, 5] (by kernel_rfl) (by cbv) ?_) | (refine aw_dw (id := 11) hj tok hm (bookM4 x_greatG x_ruB x_ruM x_ruN x_ruC x_ruRn x_ruRc x_rlsOf x_dupR x_lnsOf) [(0, false), (1, false), (2, false), (3, false), (4, false), (5, false), (6, true), (7, true), (8, true)] [(9, true), (10, true), (11, true), (12, true), (13, true)] [1, 2, 3, 4, 5] (by kernel_rfl) (by cbv) ?_) | (with_reducible refine dr_go (by cbv) ?_) | (refine aw_dw1 (id := 10) hj tok hm (bookM4 x_greatG x_ruB x_ruM x_ruN x_ruC x_ruRn x_ruRc x_rlsOf x_dupR x_lnsOf) [(0, false), (1, false), (2, false), (3, false), (4, false), (5, false), (6, true)] [(7, true)] [0, 1, 2, 3, 4, 5] (by kernel_rfl) (by cbv) ?_) | (refine aw_dw (id := 10) hj tok hm (bookM4 x_greatG x_ruB x_ruM x_ruN x_ruC x_ruRn x_ruRc x_rlsOf x_dupR x_lnsOf) [(0, false), (1, false), (2, false), (3, false), (4, false), (5, false), (6, true)] [(7, true)] [0, 1, 2, 3, 4, 5] (by kernel_rfl) (by cbv) ?_) | (refine aw_dr1 (id := 7) hj tok hm (bookM4 x_greatG x_ruB x_ruM x_ruN x_ruC x_ruRn x_ruRc x_rlsOf x_dupR x_lnsOf) true [(0, false), (1, false), (2, false), (3, false), (4, true), (5, true), (6, true), (7, true), (8, false), (9, false), (10, true), (11, true)] (by kernel_rfl) (by cbv) ?_) | (refine aw_dr (id := 7) hj tok hm (bookM4 x_greatG x_ruB x_ruM x_ruN x_ruC x_ruRn x_ruRc x_rlsOf x_dupR x_lnsOf) true [(0, false), (1, false), (2, false), (3, false), (4, true), (5, true), (6, true), (7, true), (8, false), (9, false), (10, true), (11, true)] (by kernel_rfl) (by cbv) ?_) | (refine aw_tr hj tok (bookM4 x_greatG x_ruB x_ruM x_ruN x_ruC x_ruRn x_ruRc x_rlsOf x_dupR x_lnsOf) (by cbv) ?_) | (refine aw_seq fun K hK => ?_) | (refine aw_tr1 hj tok (bookM4 x_greatG x_ruB x_ruM x_ruN x_ruC x_ruRn x_ruRc x_rlsOf x_dupR x_lnsOf) (by cbv) ?_) | (refine aw_skip ?_) | (refine aw_block ?_) | (refine aw_exit ?_) | (refine aw_ret ⟨.inr rfl, ret_okj hj (by cbv) ?_ ?_⟩) | (refine aw_ret ?_) | (with_reducible first | refine th_n ?_ | refine th_r ?_ | refine th_x ?_ | refine blk_n ?_ | refine blk_r ?_ | refine blk_x ?_ | refine blk_y rfl ?_) | (refine ⟨.inr rfl, ret_okj hj (by cbv) ?_ ?_⟩) | (refine ⟨.inl rfl, ret_okj hj (by cbv) ?_ ?_⟩) | (with_reducible first | refine ⟨(_, _, _, _, _, _, _, _, _), by cbv, ?_, ?_⟩ | refine ⟨(_, _, _, _, _, _), by cbv, ?_, ?_⟩ | refine ⟨(_, _, _, _, _), by cbv, ?_, ?_⟩ | refine ⟨_, by cbv, ?_, ?_⟩) | (with_reducible apply_assumption -symm -exfalso only [*]))
  all_goals ((try subst y_greatG); (try subst y_ruB); (try subst y_ruM); (try subst y_ruN); (try subst y_ruC); (try subst y_ruRn); (try subst y_ruRc); (try subst y_rlsOf); (try subst y_dupR); (try subst y_lnsOf); (try subst y_rsE); (try subst y_grA); (try subst y_grB); (try subst y_grR); (try subst y_rC); (try subst y_nR); (try subst y_sC); (try subst y_nS))
  all_goals (try (have q : hasM m1 (lAt L i.toNat).1 = true := (by assumption); obtain ⟨r1, r2, r3, r4⟩ := hdup hg (n2 q)))
  all_goals (try (have q : hasM m1 (lAt L i.toNat).1 = false := (by assumption); have n1 := n1 q; rw [show ((i.toNat : Nat) : Int) = i by omega, show i.toNat + 1 = (i + 1).toNat by omega] at n1))
  all_goals (try (repeat' first | with_reducible exact obl0 | (with_reducible refine obl1 ?_ ?_)))
  all_goals (try first | with_reducible exact True.intro | ((first | refine ob_le hj ?_ | refine ob_lei hj ?_ | refine ob_inb hj ?_ | refine ob_pos hj ?_ | refine ob_ne0 hj ?_ | refine ob_eqb hj ?_); (first | rfl | first | omega | (simp only [hj, std]; split <;> omega) | (simp (disch := omega) only [hj, std, cmpI, cmpB, satB, add64, sub64, ite0, pl0, pl2, pl3, sb0, if_true, if_false, eq_self, hl] <;> omega) | (simp (disch := omega) [hj, std, cmpI, cmpB, satB, add64, sub64, ite0, pl0, pl2, pl3, sb0, if_true, if_false, eq_self, hl] <;> omega))) | ((refine ob_ok hj ?_; simp only [hj, std, b1]; first | exact ⟨_, rfl⟩ | exact b2)) | ((refine ob_ok hj ?_; simp only [hj, std]; exact hI.1.ok _)) | ((rw [r1, r2, r3, r4]; exact rfl)) | ((simp (disch := omega) only [hj, std, ite0, add64, e1]; first | omega | exact ⟨by omega, by omega, n1⟩)))
 ·have ei : i.toNat = n := by omega
  rw [ei] at hI
  obtain ⟨hm1', hm2', hu, hnc, hnd⟩ := hI
  rw [hz] at hm1' hnc hnd
  generalize y_greatG : @greatG = x_greatG at *
  generalize y_ruB : @ruB = x_ruB at *
  generalize y_ruM : @ruM = x_ruM at *
  generalize y_ruN : @ruN = x_ruN at *
  generalize y_ruC : @ruC = x_ruC at *
  generalize y_ruRn : @ruRn = x_ruRn at *
  generalize y_ruRc : @ruRc = x_ruRc at *
  generalize y_rlsOf : @rlsOf = x_rlsOf at *
  generalize y_dupR : @dupR = x_dupR at *
  generalize y_lnsOf : @lnsOf = x_lnsOf at *
  generalize y_rsE : @rsE = x_rsE at *
  generalize y_grA : @grA = x_grA at *
  generalize y_grB : @grB = x_grB at *
  generalize y_grR : @grR = x_grR at *
  generalize y_rC : @rC = x_rC at *
  generalize y_nR : @nR = x_nR at *
  generalize y_sC : @sC = x_sC at *
  generalize y_nS : @nS = x_nS at *
  (repeat' first | (refine aw_ret ⟨.inr rfl, ret_nil3 hj (by cbv) ?_ ?_⟩) | (refine ⟨.inr rfl, ret_nil3 hj (by cbv) ?_ ?_⟩) | ((first | with_reducible refine tr_cut (fun h => ?_) (fun h => ?_) | refine aw_condj (by cbv) (fun h => ?_) (fun h => ?_)) <;> (try simp (disch := omega) only [hj, std, cmpI, cmpB, satB, Bool.not_eq_true, Bool.not_eq_false, decide_eq_true_eq, decide_eq_false_iff_not, beq_iff_eq, bne_iff_ne, bne_eq_false_iff_eq, beq_eq_false_iff_ne, ne_eq, reduceCtorEq, not_true_eq_false, not_false_eq_true, pl0, if_true, cmpS_eq, cmpS_neq, Bool.not_eq_eq_eq_not, Bool.not_true, Bool.not_false, Bool.not_eq_true', ite0, add64, sub64] at h) <;> (try (exfalso; omega))) | (with_reducible refine tr_alt (fun h => ?_) ?_ <;> (try (exfalso; omega))) | (with_reducible first | refine tr_ob ?_ ?_ | refine tr_done ?_) | (refine aw_dr1 (id := 23) hj tok hm (bookM4 x_greatG x_ruB x_ruM x_ruN x_ruC x_ruRn x_ruRc x_rlsOf x_dupR x_lnsOf) true [(0, false), (1, false), (2, false), (3, false), (4, false), (5, false), (6, true), (7, true), (8, true), (9, true), (10, true), (11, true), (12, true), (13, true), (14, true)] (by kernel_rfl) (by cbv) ?_) | (refine aw_dr (id := 23) hj tok hm (bookM4 x_greatG x_ruB x_ruM x_ruN x_ruC x_ruRn x_ruRc x_rlsOf x_dupR x_lnsOf) true [(0, false), (1, false), (2, false), (3, false), (4, false), (5, false), (6, true), (7, true), (8, true), (9, true), (10, true), (11, true), (12, true), (13, true), (14, true)] (by kernel_rfl) (by cbv) ?_) | (refine aw_dw1 (id := 11) hj tok hm (bookM4 x_greatG x_ruB x_ruM x_ruN x_ruC x_ruRn x_ruRc x_rlsOf x_dupR x_lnsOf) [(0, false), (1, false), (2, false), (3, false), (4, false), (5, false), (6, true), (7, true), (8, true)] [(9, true), (10, true), (11, true), (12, true), (13, true)] [1, 2, 3, 4, 5] (by kernel_rfl) (by cbv) ?_) | (refine aw_dw (id := 11) hj tok hm (bookM4 x_greatG x_ruB x_ruM x_ruN x_ruC x_ruRn x_ruRc x_rlsOf x_dupR x_lnsOf) [(0, false), (1, false), (2, false), (3, false), (4, false), (5, false), (6, true), (7, true), (8, true)] [(9, true), (10, true), (11, true), (12, true), (13, true)] [1, 2, 3, 4, 5] (by kernel_rfl) (by cbv) ?_) | (with_reducible refine dr_go (by cbv) ?_) | (refine aw_dw1 (id := 10) hj tok hm (bookM4 x_greatG x_ruB x_ruM x_ruN x_ruC x_ruRn x_ruRc x_rlsOf x_dupR x_lnsOf) [(0, false), (1, false), (2, false), (3, false), (4, false), (5, false), (6, true)] [(7, true)] [0, 1, 2, 3, 4, 5] (by kernel_rfl) (by cbv) ?_) | (refine aw_dw (id := 10) hj tok hm (bookM4 x_greatG x_ruB x_ruM x_ruN x_ruC x_ruRn x_ruRc x_rlsOf x_dupR x_lnsOf) [(0, false), (1, false), (2, false), (3, false), (4, false), (5, false), (6, true)] [(7, true)] [0, 1, 2, 3, 4, 5] (by kernel_rfl) (by cbv) ?_) | (refine aw_dr1 (id := 7) hj tok hm (bookM4 x_greatG x_ruB x_ruM x_ruN x_ruC x_ruRn x_ruRc x_rlsOf x_dupR x_lnsOf) true [(0, false), (1, false), (2, false), (3, false), (4, true), (5, true), (6, true), (7, true), (8, false), (9, false), (10, true), (11, true)] (by kernel_rfl) (by cbv) ?_) | (refine aw_dr (id := 7) hj tok hm (bookM4 x_greatG x_ruB x_ruM x_ruN x_ruC x_ruRn x_ruRc x_rlsOf x_dupR x_lnsOf) true [(0, false), (1, false), (2, false), (3, false), (4, true), (5, true), (6, true), (7, true), (8, false), (9, false), (10, true), (11, true)] (by kernel_rfl) (by cbv) ?_) | (refine aw_tr hj tok (bookM4 x_greatG x_ruB x_ruM x_ruN x_ruC x_ruRn x_ruRc x_rlsOf x_dupR x_lnsOf) (by cbv) ?_) | (refine aw_seq fun K hK => ?_) | (refine aw_tr1 hj tok (bookM4 x_greatG x_ruB x_ruM x_ruN x_ruC x_ruRn x_ruRc x_rlsOf x_dupR x_lnsOf) (by cbv) ?_) | (refine aw_skip ?_) | (refine aw_block ?_) | (refine aw_exit ?_) | (refine aw_ret ⟨.inr rfl, ret_okj hj (by cbv) ?_ ?_⟩) | (refine aw_ret ?_) | (with_reducible first | refine th_n ?_ | refine th_r ?_ | refine th_x ?_ | refine blk_n ?_ | refine blk_r ?_ | refine blk_x ?_ | refine blk_y rfl ?_) | (refine ⟨.inr rfl, ret_okj hj (by cbv) ?_ ?_⟩) | (refine ⟨.inl rfl, ret_okj hj (by cbv) ?_ ?_⟩) | (with_reducible first | refine ⟨(_, _, _, _, _, _, _, _, _), by cbv, ?_, ?_⟩ | refine ⟨(_, _, _, _, _, _), by cbv, ?_, ?_⟩ | refine ⟨(_, _, _, _, _), by cbv, ?_, ?_⟩ | refine ⟨_, by cbv, ?_, ?_⟩) | (with_reducible apply_assumption -symm -exfalso only [*]))
  all_goals ((try subst y_greatG); (try subst y_ruB); (try subst y_ruM); (try subst y_ruN); (try subst y_ruC); (try subst y_ruRn); (try subst y_ruRc); (try subst y_rlsOf); (try subst y_dupR); (try subst y_lnsOf); (try subst y_rsE); (try subst y_grA); (try subst y_grB); (try subst y_grR); (try subst y_rC); (try subst y_nR); (try subst y_sC); (try subst y_nS))
  all_goals (try (repeat' first | with_reducible exact obl0 | (with_reducible refine obl1 ?_ ?_)))
  all_goals (try first | with_reducible exact True.intro | ((first | refine ob_le hj ?_ | refine ob_lei hj ?_ | refine ob_inb hj ?_ | refine ob_pos hj ?_ | refine ob_ne0 hj ?_ | refine ob_eqb hj ?_); (first | rfl | first | omega | (simp only [hj, std]; split <;> omega) | (simp (disch := omega) only [hj, std, cmpI, cmpB, satB, add64, sub64, ite0, pl0, pl2, pl3, sb0, if_true, if_false, eq_self, hl] <;> omega) | (simp (disch := omega) [hj, std, cmpI, cmpB, satB, add64, sub64, ite0, pl0, pl2, pl3, sb0, if_true, if_false, eq_self, hl] <;> omega))))
  refine aw_lpj hj [(2, .keep), (4, .keep), (60, .keep), (61, .keep), (62, .keep)] [2, 19] (fun (⟨p, m3, tn, tc, rn, rc⟩ : Int × GM × Nat × (List C) × Nat × (List C)) => stOf 110 [(2, .one (.ptr 2 0)), (4, .one (.ptr 19 0)), (60, .one (.c (.sl n cs))), (61, .one (.c (vI (j.ofNat n)))), (62, .one (.c (vI p)))] [(2, .box [.st .nil, .st .nil, .st .nil]), (19, .box [.map .str m1, .map .str m3, .own strG u nc, .own strG tn tc, .own ruleTy rn rc])]) (fun (⟨p, m3, tn, tc, rn, rc⟩ : Int × GM × Nat × (List C) × Nat × (List C)) => n - p.toNat) (fun (⟨p, m3, tn, tc, rn, rc⟩ : Int × GM × Nat × (List C) × Nat × (List C)) => 0 ≤ p ∧ p ≤ n ∧ rsInv0 L p.toNat m3 tn tc rn rc) ((0, m2, 0, [], 0, [])) (by generalize @greatG = x_greatG; generalize @ruB = x_ruB; generalize @ruM = x_ruM; generalize @ruN = x_ruN; generalize @ruC = x_ruC; generalize @ruRn = x_ruRn; generalize @ruRc = x_ruRc; generalize @rlsOf = x_rlsOf; generalize @dupR = x_dupR; generalize @lnsOf = x_lnsOf; generalize @rsE = x_rsE; generalize @grA = x_grA; generalize @grB = x_grB; generalize @grR = x_grR; generalize @rC = x_rC; generalize @nR = x_nR; generalize @sC = x_sC; generalize @nS = x_nS; cbv) ?_ (fun ⟨p, m3, tn, tc, rn, rc⟩ hI => ?_)
  ·exact ⟨by omega, by omega, rsInv0.start hm2'⟩
  obtain ⟨p1, p2, hP⟩ := hI
  rcases Decidable.em (p < (n : Int)) with hp | hp
  ·obtain ⟨b1, b2, b3, b4⟩ := a1 p.toNat (by omega)
   have hg1 := g1 p.toNat (by omega)
   have n5 := fun k => n5 p.toNat k (by omega)
   have n4 := fun k m2 tn tc rn rc h => n4 p.toNat k m2 tn tc rn rc h (by omega)
   have hgo := n3 _ _ _ _ _ _ hP (by omega)
   have n6 := fun k m2 tn tc rn rc es h => @rsInv.next L p.toNat k m1 m2 tn tc rn rc es h hm1'
   have n7 := fun k m2 tn tc rn rc es h => @rsInv.stop L p.toNat k m1 m2 tn tc rn rc es h hm1'
   have hA0 := (a3 p.toNat (by omega)).1
   generalize hA' : (lAt L p.toNat).2 = A at *
   have e3 : gn (cellAt cs (p.toNat * 2 + 1)) = A.length := b3
   generalize hds : gc (cellAt cs (p.toNat * 2 + 1)) = ds at *
   obtain ⟨l1, l2⟩ := b4
   generalize y_greatG : @greatG = x_greatG at *
   generalize y_ruB : @ruB = x_ruB at *
   generalize y_ruM : @ruM = x_ruM at *
   generalize y_ruN : @ruN = x_ruN at *
   generalize y_ruC : @ruC = x_ruC at *
   generalize y_ruRn : @ruRn = x_ruRn at *
   generalize y_ruRc : @ruRc = x_ruRc at *
   generalize y_rlsOf : @rlsOf = x_rlsOf at *
   generalize y_dupR : @dupR = x_dupR at *
   generalize y_lnsOf : @lnsOf = x_lnsOf at *
   generalize y_rsE : @rsE = x_rsE at *
   generalize y_grA : @grA = x_grA at *
   generalize y_grB : @grB = x_grB at *
   generalize y_grR : @grR = x_grR at *
   generalize y_rC : @rC = x_rC at *
   generalize y_nR : @nR = x_nR at *
   generalize y_sC : @sC = x_sC at *
   generalize y_nS : @nS = x_nS at *
   (repeat' first | (refine aw_ret ⟨.inr rfl, ret_nil3 hj (by cbv) ?_ ?_⟩) | (refine ⟨.inr rfl, ret_nil3 hj (by cbv) ?_ ?_⟩) | ((first | with_reducible refine tr_cut (fun h => ?_) (fun h => ?_) | refine aw_condj (by cbv) (fun h => ?_) (fun h => ?_)) <;> (try simp (disch := omega) only [hj, std, cmpI, cmpB, satB, Bool.not_eq_true, Bool.not_eq_false, decide_eq_true_eq, decide_eq_false_iff_not, beq_iff_eq, bne_iff_ne, bne_eq_false_iff_eq, beq_eq_false_iff_ne, ne_eq, reduceCtorEq, not_true_eq_false, not_false_eq_true, pl0, if_true, cmpS_eq, cmpS_neq, Bool.not_eq_eq_eq_not, Bool.not_true, Bool.not_false, Bool.not_eq_true', e3, hds, ite0, add64, sub64] at h) <;> (try (exfalso; omega))) | (with_reducible refine tr_alt (fun h => ?_) ?_ <;> (try (exfalso; omega))) | (with_reducible first | refine tr_ob ?_ ?_ | refine tr_done ?_) | (refine aw_dr1 (id := 23) hj tok hm (bookM4 x_greatG x_ruB x_ruM x_ruN x_ruC x_ruRn x_ruRc x_rlsOf x_dupR x_lnsOf) true [(0, false), (1, false), (2, false), (3, false), (4, false), (5, false), (6, true), (7, true), (8, true), (9, true), (10, true), (11, true), (12, true), (13, true), (14, true)] (by kernel_rfl) (by cbv) ?_) | (refine aw_dr (id := 23) hj tok hm (bookM4 x_greatG x_ruB x_ruM x_ruN x_ruC x_ruRn x_ruRc x_rlsOf x_dupR x_lnsOf) true [(0, false), (1, false), (2, false), (3, false), (4, false), (5, false), (6, true), (7, true), (8, true), (9, true), (10, true), (11, true), (12, true), (13, true), (14, true)] (by kernel_rfl) (by cbv) ?_) | (refine aw_dw1 (id := 11) hj tok hm (bookM4 x_greatG x_ruB x_ruM x_ruN x_ruC x_ruRn x_ruRc x_rlsOf x_dupR x_lnsOf) [(0, false), (1, false), (2, false), (3, false), (4, false), (5, false), (6, true), (7, true), (8, true)] [(9, true), (10, true), (11, true), (12, true), (13, true)] [1, 2, 3, 4, 5] (by kernel_rfl) (by cbv) ?_) | (refine aw_dw (id := 11) hj tok hm (bookM4 x_greatG x_ruB x_ruM x_ruN x_ruC x_ruRn x_ruRc x_rlsOf x_dupR x_lnsOf) [(0, false), (1, false), (2, false), (3, false), (4, false), (5, false), (6, true), (7, true), (8, true)] [(9, true), (10, true), (11, true), (12, true), (13, true)] [1, 2, 3, 4, 5] (by kernel_rfl) (by cbv) ?_) | (with_reducible refine dr_go (by cbv) ?_) | (refine aw_dw1 (id := 10) hj tok hm (bookM4 x_greatG x_ruB x_ruM x_ruN x_ruC x_ruRn x_ruRc x_rlsOf x_dupR x_lnsOf) [(0, false), (1, false), (2, false), (3, false), (4, false), (5, false), (6, true)] [(7, true)] [0, 1, 2, 3, 4, 5] (by kernel_rfl) (by cbv) ?_) | (refine aw_dw (id := 10) hj tok hm (bookM4 x_greatG x_ruB x_ruM x_ruN x_ruC x_ruRn x_ruRc x_rlsOf x_dupR x_lnsOf) [(0, false), (1, false), (2, false), (3, false), (4, false), (5, false), (6, true)] [(7, true)] [0, 1, 2, 3, 4, 5] (by kernel_rfl) (by cbv) ?_) | (refine aw_dr1 (id := 7) hj tok hm (bookM4 x_greatG x_ruB x_ruM x_ruN x_ruC x_ruRn x_ruRc x_rlsOf x_dupR x_lnsOf) true [(0, false), (1, false), (2, false), (3, false), (4, true), (5, true), (6, true), (7, true), (8, false), (9, false), (10, true), (11, true)] (by kernel_rfl) (by cbv) ?_) | (refine aw_dr (id := 7) hj tok hm (bookM4 x_greatG x_ruB x_ruM x_ruN x_ruC x_ruRn x_ruRc x_rlsOf x_dupR x_lnsOf) true [(0, false), (1, false), (2, false), (3, false), (4, true), (5, true), (6, true), (7, true), (8, false), (9, false), (10, true), (11, true)] (by kernel_rfl) (by cbv) ?_) | (refine aw_tr hj tok (bookM4 x_greatG x_ruB x_ruM x_ruN x_ruC x_ruRn x_ruRc x_rlsOf x_dupR x_lnsOf) (by cbv) ?_) | (refine aw_seq fun K hK => ?_) | (refine aw_tr1 hj tok (bookM4 x_greatG x_ruB x_ruM x_ruN x_ruC x_ruRn x_ruRc x_rlsOf x_dupR x_lnsOf) (by cbv) ?_) | (refine aw_skip ?_) | (refine aw_block ?_) | (refine aw_exit ?_) | (refine aw_ret ⟨.inr rfl, ret_okj hj (by cbv) ?_ ?_⟩) | (refine aw_ret ?_) | (with_reducible first | refine th_n ?_ | refine th_r ?_ | refine th_x ?_ | refine blk_n ?_ | refine blk_r ?_ | refine blk_x ?_ | refine blk_y rfl ?_) | (refine ⟨.inr rfl, ret_okj hj (by cbv) ?_ ?_⟩) | (refine ⟨.inl rfl, ret_okj hj (by cbv) ?_ ?_⟩) | (with_reducible first | refine ⟨(_, _, _, _, _, _, _, _, _), by cbv, ?_, ?_⟩ | refine ⟨(_, _, _, _, _, _), by cbv, ?_, ?_⟩ | refine ⟨(_, _, _, _, _), by cbv, ?_, ?_⟩ | refine ⟨_, by cbv, ?_, ?_⟩) | (with_reducible apply_assumption -symm -exfalso only [*]))
   all_goals ((try subst y_greatG); (try subst y_ruB); (try subst y_ruM); (try subst y_ruN); (try subst y_ruC); (try subst y_ruRn); (try subst y_ruRc); (try subst y_rlsOf); (try subst y_dupR); (try subst y_lnsOf); (try subst y_rsE); (try subst y_grA); (try subst y_grB); (try subst y_grR); (try subst y_rC); (try subst y_nR); (try subst y_sC); (try subst y_nS))
   all_goals (try (repeat' first | with_reducible exact obl0 | (with_reducible refine obl1 ?_ ?_)))
   all_goals (try first | with_reducible exact True.intro | ((first | refine ob_le hj ?_ | refine ob_lei hj ?_ | refine ob_inb hj ?_ | refine ob_pos hj ?_ | refine ob_ne0 hj ?_ | refine ob_eqb hj ?_); (first | rfl | first | omega | (simp only [hj, std]; split <;> omega) | (simp (disch := omega) only [hj, std, cmpI, cmpB, satB, add64, sub64, ite0, pl0, pl2, pl3, sb0, if_true, if_false, eq_self, hl] <;> omega) | (simp (disch := omega) [hj, std, cmpI, cmpB, satB, add64, sub64, ite0, pl0, pl2, pl3, sb0, if_true, if_false, eq_self, hl] <;> omega))) | ((refine ob_ok hj ?_; simp only [hj, std, ite0, b1]; first | exact ⟨_, rfl⟩ | exact b2)))
   refine aw_lpj hj [(2, .keep), (4, .keep), (9, .keep), (60, .keep), (61, .keep), (62, .keep), (68, .keep), (69, .keep), (70, .keep)] [2, 19] (fun (⟨k, m4, tn2, tc2, rn2, rc2, u2, c2, v2⟩ : Int × GM × Nat × (List C) × Nat × (List C) × Nat × (List C) × Int) => stOf 110 [(2, .one (.ptr 2 0)), (4, .one (.ptr 19 0)), (9, .one (.c (vI p))), (60, .one (.c (.sl n cs))), (61, .one (.c (vI (j.ofNat n)))), (62, .one (.c (vI p))), (68, .one (.c (.sl u2 c2))), (69, .one (.c (vI v2))), (70, .one (.c (vI k)))] [(2, .box [.st .nil, .st .nil, .st .nil]), (19, .box [.map .str m1, .map .str m4, .own strG u nc, .own strG tn2 tc2, .own ruleTy rn2 rc2])]) (fun (⟨k, m4, tn2, tc2, rn2, rc2, u2, c2, v2⟩ : Int × GM × Nat × (List C) × Nat × (List C) × Nat × (List C) × Int) => A.length - k.toNat) (fun (⟨k, m4, tn2, tc2, rn2, rc2, u2, c2, v2⟩ : Int × GM × Nat × (List C) × Nat × (List C) × Nat × (List C) × Int) => 0 ≤ k ∧ k ≤ A.length ∧ u2 = A.length ∧ c2 = ds ∧ v2 = A.length ∧ rsInv L p.toNat k.toNat m4 tn2 tc2 rn2 rc2) ((0, m3, tn, tc, rn, rc, _, _, _)) (by generalize @greatG = x_greatG; generalize @ruB = x_ruB; generalize @ruM = x_ruM; generalize @ruN = x_ruN; generalize @ruC = x_ruC; generalize @ruRn = x_ruRn; generalize @ruRc = x_ruRc; generalize @rlsOf = x_rlsOf; generalize @dupR = x_dupR; generalize @lnsOf = x_lnsOf; generalize @rsE = x_rsE; generalize @grA = x_grA; generalize @grB = x_grB; generalize @grR = x_grR; generalize @rC = x_rC; generalize @nR = x_nR; generalize @sC = x_sC; generalize @nS = x_nS; cbv) ?_ (fun ⟨k, m4, tn2, tc2, rn2, rc2, u2, c2, v2⟩ hI => ?_)
   ·simp (disch := omega) only [hj, std, ite0, e3, hds, add64]; exact ⟨by omega, by omega, trivial, trivial, trivial, hgo⟩
   obtain ⟨k1, k2, k3, k4, k5, hK⟩ := hI
   subst k4
   have hK' := hK
   obtain ⟨Ts, Rs, et, ec, er, erc, hmt, hRl, hTl, hr64, hlast⟩ := hK
   have hcnt := n5 k.toNat (by omega)
   rcases Decidable.em (k < (A.length : Int)) with hk | hk
   ·obtain ⟨d1, d2, d3⟩ := l2 k.toNat (by omega)
    have h64 := hg1 k.toNat (by omega)
    have s1 := n6 _ _ _ _ _ _ _ hK' (by omega) h64 d3
    have s2 := n7 _ _ _ _ _ _ _ hK' (by omega) d3
    generalize y_greatG : @greatG = x_greatG at *
    generalize y_ruB : @ruB = x_ruB at *
    generalize y_ruM : @ruM = x_ruM at *
    generalize y_ruN : @ruN = x_ruN at *
    generalize y_ruC : @ruC = x_ruC at *
    generalize y_ruRn : @ruRn = x_ruRn at *
    generalize y_ruRc : @ruRc = x_ruRc at *
    generalize y_rlsOf : @rlsOf = x_rlsOf at *
    generalize y_dupR : @dupR = x_dupR at *
    generalize y_lnsOf : @lnsOf = x_lnsOf at *
    generalize y_rsE : @rsE = x_rsE at *
    generalize y_grA : @grA = x_grA at *
    generalize y_grB : @grB = x_grB at *
    generalize y_grR : @grR = x_grR at *
    generalize y_rC : @rC = x_rC at *
    generalize y_nR : @nR = x_nR at *
    generalize y_sC : @sC = x_sC at *
    generalize y_nS : @nS = x_nS at *
    (repeat' first | (refine aw_ret ⟨.inr rfl, ret_nil3 hj (by cbv) ?_ ?_⟩) | (refine ⟨.inr rfl, ret_nil3 hj (by cbv) ?_ ?_⟩) | ((first | with_reducible refine tr_cut (fun h => ?_) (fun h => ?_) | refine aw_condj (by cbv) (fun h => ?_) (fun h => ?_)) <;> (try simp (disch := omega) only [hj, std, cmpI, cmpB, satB, Bool.not_eq_true, Bool.not_eq_false, decide_eq_true_eq, decide_eq_false_iff_not, beq_iff_eq, bne_iff_ne, bne_eq_false_iff_eq, beq_eq_false_iff_ne, ne_eq, reduceCtorEq, not_true_eq_false, not_false_eq_true, pl0, if_true, cmpS_eq, cmpS_neq, Bool.not_eq_eq_eq_not, Bool.not_true, Bool.not_false, Bool.not_eq_true', ite0, add64, sub64] at h) <;> (try (exfalso; omega))) | (with_reducible refine tr_alt (fun h => ?_) ?_ <;> (try (exfalso; omega))) | (with_reducible first | refine tr_ob ?_ ?_ | refine tr_done ?_) | (refine aw_dr1 (id := 23) hj tok hm (bookM4 x_greatG x_ruB x_ruM x_ruN x_ruC x_ruRn x_ruRc x_rlsOf x_dupR x_lnsOf) true [(0, false), (1, false), (2, false), (3, false), (4, false), (5, false), (6, true), (7, true), (8, true), (9, true), (10, true), (11, true), (12, true), (13, true), (14, true)] (by kernel_rfl) (by cbv) ?_) | (refine aw_dr (id := 23) hj tok hm (bookM4 x_greatG x_ruB x_ruM x_ruN x_ruC x_ruRn x_ruRc x_rlsOf x_dupR x_lnsOf) true [(0, false), (1, false), (2, false), (3, false), (4, false), (5, false), (6, true), (7, true), (8, true), (9, true), (10, true), (11, true), (12, true), (13, true), (14, true)] (by kernel_rfl) (by cbv) ?_) | (refine aw_dw1 (id := 11) hj tok hm (bookM4 x_greatG x_ruB x_ruM x_ruN x_ruC x_ruRn x_ruRc x_rlsOf x_dupR x_lnsOf) [(0, false), (1, false), (2, false), (3, false), (4, false), (5, false), (6, true), (7, true), (8, true)] [(9, true), (10, true), (11, true), (12, true), (13, true)] [1, 2, 3, 4, 5] (by kernel_rfl) (by cbv) ?_) | (refine aw_dw (id := 11) hj tok hm (bookM4 x_greatG x_ruB x_ruM x_ruN x_ruC x_ruRn x_ruRc x_rlsOf x_dupR x_lnsOf) [(0, false), (1, false), (2, false), (3, false), (4, false), (5, false), (6, true), (7, true), (8, true)] [(9, true), (10, true), (11, true), (12, true), (13, true)] [1, 2, 3, 4, 5] (by kernel_rfl) (by cbv) ?_) | (with_reducible refine dr_go (by cbv) ?_) | (refine aw_dw1 (id := 10) hj tok hm (bookM4 x_greatG x_ruB x_ruM x_ruN x_ruC x_ruRn x_ruRc x_rlsOf x_dupR x_lnsOf) [(0, false), (1, false), (2, false), (3, false), (4, false), (5, false), (6, true)] [(7, true)] [0, 1, 2, 3, 4, 5] (by kernel_rfl) (by cbv) ?_) | (refine aw_dw (id := 10) hj tok hm (bookM4 x_greatG x_ruB x_ruM x_ruN x_ruC x_ruRn x_ruRc x_rlsOf x_dupR x_lnsOf) [(0, false), (1, false), (2, false), (3, false), (4, false), (5, false), (6, true)] [(7, true)] [0, 1, 2, 3, 4, 5] (by kernel_rfl) (by cbv) ?_) | (refine aw_dr1 (id := 7) hj tok hm (bookM4 x_greatG x_ruB x_ruM x_ruN x_ruC x_ruRn x_ruRc x_rlsOf x_dupR x_lnsOf) true [(0, false), (1, false), (2, false), (3, false), (4, true), (5, true), (6, true), (7, true), (8, false), (9, false), (10, true), (11, true)] (by kernel_rfl) (by cbv) ?_) | (refine aw_dr (id := 7) hj tok hm (bookM4 x_greatG x_ruB x_ruM x_ruN x_ruC x_ruRn x_ruRc x_rlsOf x_dupR x_lnsOf) true [(0, false), (1, false), (2, false), (3, false), (4, true), (5, true), (6, true), (7, true), (8, false), (9, false), (10, true), (11, true)] (by kernel_rfl) (by cbv) ?_) | (refine aw_tr hj tok (bookM4 x_greatG x_ruB x_ruM x_ruN x_ruC x_ruRn x_ruRc x_rlsOf x_dupR x_lnsOf) (by cbv) ?_) | (refine aw_seq fun K hK => ?_) | (refine aw_tr1 hj tok (bookM4 x_greatG x_ruB x_ruM x_ruN x_ruC x_ruRn x_ruRc x_rlsOf x_dupR x_lnsOf) (by cbv) ?_) | (refine aw_skip ?_) | (refine aw_block ?_) | (refine aw_exit ?_) | (refine aw_ret ⟨.inr rfl, ret_okj hj (by cbv) ?_ ?_⟩) | (refine aw_ret ?_) | (with_reducible first | refine th_n ?_ | refine th_r ?_ | refine th_x ?_ | refine blk_n ?_ | refine blk_r ?_ | refine blk_x ?_ | refine blk_y rfl ?_) | (refine ⟨.inr rfl, ret_okj hj (by cbv) ?_ ?_⟩) | (refine ⟨.inl rfl, ret_okj hj (by cbv) ?_ ?_⟩) | (with_reducible first | refine ⟨(_, _, _, _, _, _, _, _, _), by cbv, ?_, ?_⟩ | refine ⟨(_, _, _, _, _, _), by cbv, ?_, ?_⟩ | refine ⟨(_, _, _, _, _), by cbv, ?_, ?_⟩ | refine ⟨_, by cbv, ?_, ?_⟩) | (with_reducible apply_assumption -symm -exfalso only [*]))
    all_goals ((try subst y_greatG); (try subst y_ruB); (try subst y_ruM); (try subst y_ruN); (try subst y_ruC); (try subst y_ruRn); (try subst y_ruRc); (try subst y_rlsOf); (try subst y_dupR); (try subst y_lnsOf); (try subst y_rsE); (try subst y_grA); (try subst y_grB); (try subst y_grR); (try subst y_rC); (try subst y_nR); (try subst y_sC); (try subst y_nS))
    all_goals (try (have q : ruB m1 m4 tc2 (gc (cellAt c2 k.toNat)) = true := (by assumption); have s1 := s1 q; rw [show ((p.toNat : Nat) : Int) = p by omega, show k.toNat + 1 = (k + 1).toNat by omega] at s1))
    all_goals (try (have q : ruB m1 m4 tc2 (gc (cellAt c2 k.toNat)) = false := (by assumption); have r0 := s2 q))
    all_goals (try (have r0 : (linesF (namesL L) 0 L ([], [])).1 = false := (by assumption); obtain ⟨r1, r2, r3, r4⟩ := hbad hg hnd r0))
    all_goals (try (repeat' first | with_reducible exact obl0 | (with_reducible refine obl1 ?_ ?_)))
    all_goals (try first | with_reducible exact True.intro | ((first | refine ob_pc hj ?_ | refine ob_pcn hj ?_); (try rw [hj]); first | exact c_rule hm1' hmt (by omega) (by omega) (by omega) et ec er erc d2 d3) | ((first | refine ob_le hj ?_ | refine ob_lei hj ?_ | refine ob_inb hj ?_ | refine ob_pos hj ?_ | refine ob_ne0 hj ?_ | refine ob_eqb hj ?_); (first | rfl | first | omega | (simp only [hj, std]; split <;> omega) | (simp (disch := omega) only [hj, std, cmpI, cmpB, satB, add64, sub64, ite0, pl0, pl2, pl3, sb0, if_true, if_false, eq_self, l1] <;> omega) | (simp (disch := omega) [hj, std, cmpI, cmpB, satB, add64, sub64, ite0, pl0, pl2, pl3, sb0, if_true, if_false, eq_self, l1] <;> omega))) | ((refine ob_ok hj ?_; simp only [hj, std]; exact d1)) | ((rw [r1, r2, r3, r4]; exact rfl)) | ((simp (disch := omega) only [hj, std, ite0, add64]; first | omega | exact ⟨by omega, by omega, k3, by first | rfl | trivial, k5, s1⟩)))
   ·have ek : k.toNat = A.length := by omega
    have s3 := n4 _ _ _ _ _ _ hK' ek
    rw [show p.toNat + 1 = (p + 1).toNat by omega] at s3
    generalize y_greatG : @greatG = x_greatG at *
    generalize y_ruB : @ruB = x_ruB at *
    generalize y_ruM : @ruM = x_ruM at *
    generalize y_ruN : @ruN = x_ruN at *
    generalize y_ruC : @ruC = x_ruC at *
    generalize y_ruRn : @ruRn = x_ruRn at *
    generalize y_ruRc : @ruRc = x_ruRc at *
    generalize y_rlsOf : @rlsOf = x_rlsOf at *
    generalize y_dupR : @dupR = x_dupR at *
    generalize y_lnsOf : @lnsOf = x_lnsOf at *
    generalize y_rsE : @rsE = x_rsE at *
    generalize y_grA : @grA = x_grA at *
    generalize y_grB : @grB = x_grB at *
    generalize y_grR : @grR = x_grR at *
    generalize y_rC : @rC = x_rC at *
    generalize y_nR : @nR = x_nR at *
    generalize y_sC : @sC = x_sC at *
    generalize y_nS : @nS = x_nS at *
    (repeat' first | (refine aw_ret ⟨.inr rfl, ret_nil3 hj (by cbv) ?_ ?_⟩) | (refine ⟨.inr rfl, ret_nil3 hj (by cbv) ?_ ?_⟩) | ((first | with_reducible refine tr_cut (fun h => ?_) (fun h => ?_) | refine aw_condj (by cbv) (fun h => ?_) (fun h => ?_)) <;> (try simp (disch := omega) only [hj, std, cmpI, cmpB, satB, Bool.not_eq_true, Bool.not_eq_false, decide_eq_true_eq, decide_eq_false_iff_not, beq_iff_eq, bne_iff_ne, bne_eq_false_iff_eq, beq_eq_false_iff_ne, ne_eq, reduceCtorEq, not_true_eq_false, not_false_eq_true, pl0, if_true, cmpS_eq, cmpS_neq, Bool.not_eq_eq_eq_not, Bool.not_true, Bool.not_false, Bool.not_eq_true', ite0, add64, sub64] at h) <;> (try (exfalso; omega))) | (with_reducible refine tr_alt (fun h => ?_) ?_ <;> (try (exfalso; omega))) | (with_reducible first | refine tr_ob ?_ ?_ | refine tr_done ?_) | (refine aw_dr1 (id := 23) hj tok hm (bookM4 x_greatG x_ruB x_ruM x_ruN x_ruC x_ruRn x_ruRc x_rlsOf x_dupR x_lnsOf) true [(0, false), (1, false), (2, false), (3, false), (4, false), (5, false), (6, true), (7, true), (8, true), (9, true), (10, true), (11, true), (12, true), (13, true), (14, true)] (by kernel_rfl) (by cbv) ?_) | (refine aw_dr (id := 23) hj tok hm (bookM4 x_greatG x_ruB x_ruM x_ruN x_ruC x_ruRn x_ruRc x_rlsOf x_dupR x_lnsOf) true [(0, false), (1, false), (2, false), (3, false), (4, false), (5, false), (6, true), (7, true), (8, true), (9, true), (10, true), (11, true), (12, true), (13, true), (14, true)] (by kernel_rfl) (by cbv) ?_) | (refine aw_dw1 (id := 11) hj tok hm (bookM4 x_greatG x_ruB x_ruM x_ruN x_ruC x_ruRn x_ruRc x_rlsOf x_dupR x_lnsOf) [(0, false), (1, false), (2, false), (3, false), (4, false), (5, false), (6, true), (7, true), (8, true)] [(9, true), (10, true), (11, true), (12, true), (13, true)] [1, 2, 3, 4, 5] (by kernel_rfl) (by cbv) ?_) | (refine aw_dw (id := 11) hj tok hm (bookM4 x_greatG x_ruB x_ruM x_ruN x_ruC x_ruRn x_ruRc x_rlsOf x_dupR x_lnsOf) [(0, false), (1, false), (2, false), (3, false), (4, false), (5, false), (6, true), (7, true), (8, true)] [(9, true), (10, true), (11, true), (12, true), (13, true)] [1, 2, 3, 4, 5] (by kernel_rfl) (by cbv) ?_) | (with_reducible refine dr_go (by cbv) ?_) | (refine aw_dw1 (id := 10) hj tok hm (bookM4 x_greatG x_ruB x_ruM x_ruN x_ruC x_ruRn x_ruRc x_rlsOf x_dupR x_lnsOf) [(0, false), (1, false), (2, false), (3, false), (4, false), (5, false), (6, true)] [(7, true)] [0, 1, 2, 3, 4, 5] (by kernel_rfl) (by cbv) ?_) | (refine aw_dw (id := 10) hj tok hm (bookM4 x_greatG x_ruB x_ruM x_ruN x_ruC x_ruRn x_ruRc x_rlsOf x_dupR x_lnsOf) [(0, false), (1, false), (2, false), (3, false), (4, false), (5, false), (6, true)] [(7, true)] [0, 1, 2, 3, 4, 5] (by kernel_rfl) (by cbv) ?_) | (refine aw_dr1 (id := 7) hj tok hm (bookM4 x_greatG x_ruB x_ruM x_ruN x_ruC x_ruRn x_ruRc x_rlsOf x_dupR x_lnsOf) true [(0, false), (1, false), (2, false), (3, false), (4, true), (5, true), (6, true), (7, true), (8, false), (9, false), (10, true), (11, true)] (by kernel_rfl) (by cbv) ?_) | (refine aw_dr (id := 7) hj tok hm (bookM4 x_greatG x_ruB x_ruM x_ruN x_ruC x_ruRn x_ruRc x_rlsOf x_dupR x_lnsOf) true [(0, false), (1, false), (2, false), (3, false), (4, true), (5, true), (6, true), (7, true), (8, false), (9, false), (10, true), (11, true)] (by kernel_rfl) (by cbv) ?_) | (refine aw_tr hj tok (bookM4 x_greatG x_ruB x_ruM x_ruN x_ruC x_ruRn x_ruRc x_rlsOf x_dupR x_lnsOf) (by cbv) ?_) | (refine aw_seq fun K hK => ?_) | (refine aw_tr1 hj tok (bookM4 x_greatG x_ruB x_ruM x_ruN x_ruC x_ruRn x_ruRc x_rlsOf x_dupR x_lnsOf) (by cbv) ?_) | (refine aw_skip ?_) | (refine aw_block ?_) | (refine aw_exit ?_) | (refine aw_ret ⟨.inr rfl, ret_okj hj (by cbv) ?_ ?_⟩) | (refine aw_ret ?_) | (with_reducible first | refine th_n ?_ | refine th_r ?_ | refine th_x ?_ | refine blk_n ?_ | refine blk_r ?_ | refine blk_x ?_ | refine blk_y rfl ?_) | (refine ⟨.inr rfl, ret_okj hj (by cbv) ?_ ?_⟩) | (refine ⟨.inl rfl, ret_okj hj (by cbv) ?_ ?_⟩) | (with_reducible first | refine ⟨(_, _, _, _, _, _, _, _, _), by cbv, ?_, ?_⟩ | refine ⟨(_, _, _, _, _, _), by cbv, ?_, ?_⟩ | refine ⟨(_, _, _, _, _), by cbv, ?_, ?_⟩ | refine ⟨_, by cbv, ?_, ?_⟩) | (with_reducible apply_assumption -symm -exfalso only [*]))
    all_goals ((try subst y_greatG); (try subst y_ruB); (try subst y_ruM); (try subst y_ruN); (try subst y_ruC); (try subst y_ruRn); (try subst y_ruRc); (try subst y_rlsOf); (try subst y_dupR); (try subst y_lnsOf); (try subst y_rsE); (try subst y_grA); (try subst y_grB); (try subst y_grR); (try subst y_rC); (try subst y_nR); (try subst y_sC); (try subst y_nS))
    all_goals (try (repeat' first | with_reducible exact obl0 | (with_reducible refine obl1 ?_ ?_)))
    all_goals (try first | with_reducible exact True.intro | ((first | refine ob_le hj ?_ | refine ob_lei hj ?_ | refine ob_inb hj ?_ | refine ob_pos hj ?_ | refine ob_ne0 hj ?_ | refine ob_eqb hj ?_); (first | rfl | first | omega | (simp only [hj, std]; split <;> omega) | (simp (disch := omega) only [hj, std, cmpI, cmpB, satB, add64, sub64, ite0, pl0, pl2, pl3, sb0, if_true, if_false, eq_self, l1] <;> omega) | (simp (disch := omega) [hj, std, cmpI, cmpB, satB, add64, sub64, ite0, pl0, pl2, pl3, sb0, if_true, if_false, eq_self, l1] <;> omega))) | ((simp (disch := omega) only [hj, std, ite0, add64]; first | omega | exact ⟨by omega, by omega, s3⟩)))
  ·have ep : p.toNat = n := by omega
   rw [ep] at hP
   obtain ⟨y1, y2, y3⟩ := hend _ _ _ _ _ hg hnd hP
   obtain ⟨Ts, Rs, et, ec, er, erc, hmt, hRl, hTl, hr64, hlast⟩ := hP
   rw [hz] at hRl hTl
   have htn : tn ≤ 300000 := by rw [et, nS_eq]; omega
   generalize y_greatG : @greatG = x_greatG at *
   generalize y_ruB : @ruB = x_ruB at *
   generalize y_ruM : @ruM = x_ruM at *
   generalize y_ruN : @ruN = x_ruN at *
   generalize y_ruC : @ruC = x_ruC at *
   generalize y_ruRn : @ruRn = x_ruRn at *
   generalize y_ruRc : @ruRc = x_ruRc at *
   generalize y_rlsOf : @rlsOf = x_rlsOf at *
   generalize y_dupR : @dupR = x_dupR at *
   generalize y_lnsOf : @lnsOf = x_lnsOf at *
   generalize y_rsE : @rsE = x_rsE at *
   generalize y_grA : @grA = x_grA at *
   generalize y_grB : @grB = x_grB at *
   generalize y_grR : @grR = x_grR at *
   generalize y_rC : @rC = x_rC at *
   generalize y_nR : @nR = x_nR at *
   generalize y_sC : @sC = x_sC at *
   generalize y_nS : @nS = x_nS at *
   (repeat' first | (refine aw_ret ⟨.inr rfl, ret_nil3 hj (by cbv) ?_ ?_⟩) | (refine ⟨.inr rfl, ret_nil3 hj (by cbv) ?_ ?_⟩) | (refine aw_retc hj [(2, .keep), (3, .keep), (2, .bfz 0), (2, .bfz 1), (2, .bfz 2)] [2] (by cbv) ?_) | ((first | with_reducible refine tr_cut (fun h => ?_) (fun h => ?_) | refine aw_condj (by cbv) (fun h => ?_) (fun h => ?_)) <;> (try simp (disch := omega) only [hj, std, cmpI, cmpB, satB, Bool.not_eq_true, Bool.not_eq_false, decide_eq_true_eq, decide_eq_false_iff_not, beq_iff_eq, bne_iff_ne, bne_eq_false_iff_eq, beq_eq_false_iff_ne, ne_eq, reduceCtorEq, not_true_eq_false, not_false_eq_true, pl0, if_true, cmpS_eq, cmpS_neq, Bool.not_eq_eq_eq_not, Bool.not_true, Bool.not_false, Bool.not_eq_true', ite0, add64, sub64] at h) <;> (try (exfalso; omega))) | (with_reducible refine tr_alt (fun h => ?_) ?_ <;> (try (exfalso; omega))) | (with_reducible first | refine tr_ob ?_ ?_ | refine tr_done ?_) | (refine aw_dr1 (id := 23) hj tok hm (bookM4 x_greatG x_ruB x_ruM x_ruN x_ruC x_ruRn x_ruRc x_rlsOf x_dupR x_lnsOf) true [(0, false), (1, false), (2, false), (3, false), (4, false), (5, false), (6, true), (7, true), (8, true), (9, true), (10, true), (11, true), (12, true), (13, true), (14, true)] (by kernel_rfl) (by cbv) ?_) | (refine aw_dr (id := 23) hj tok hm (bookM4 x_greatG x_ruB x_ruM x_ruN x_ruC x_ruRn x_ruRc x_rlsOf x_dupR x_lnsOf) true [(0, false), (1, false), (2, false), (3, false), (4, false), (5, false), (6, true), (7, true), (8, true), (9, true), (10, true), (11, true), (12, true), (13, true), (14, true)] (by kernel_rfl) (by cbv) ?_) | (refine aw_dw1 (id := 11) hj tok hm (bookM4 x_greatG x_ruB x_ruM x_ruN x_ruC x_ruRn x_ruRc x_rlsOf x_dupR x_lnsOf) [(0, false), (1, false), (2, false), (3, false), (4, false), (5, false), (6, true), (7, true), (8, true)] [(9, true), (10, true), (11, true), (12, true), (13, true)] [1, 2, 3, 4, 5] (by kernel_rfl) (by cbv) ?_) | (refine aw_dw (id := 11) hj tok hm (bookM4 x_greatG x_ruB x_ruM x_ruN x_ruC x_ruRn x_ruRc x_rlsOf x_dupR x_lnsOf) [(0, false), (1, false), (2, false), (3, false), (4, false), (5, false), (6, true), (7, true), (8, true)] [(9, true), (10, true), (11, true), (12, true), (13, true)] [1, 2, 3, 4, 5] (by kernel_rfl) (by cbv) ?_) | (with_reducible refine dr_go (by cbv) ?_) | (refine aw_dw1 (id := 10) hj tok hm (bookM4 x_greatG x_ruB x_ruM x_ruN x_ruC x_ruRn x_ruRc x_rlsOf x_dupR x_lnsOf) [(0, false), (1, false), (2, false), (3, false), (4, false), (5, false), (6, true)] [(7, true)] [0, 1, 2, 3, 4, 5] (by kernel_rfl) (by cbv) ?_) | (refine aw_dw (id := 10) hj tok hm (bookM4 x_greatG x_ruB x_ruM x_ruN x_ruC x_ruRn x_ruRc x_rlsOf x_dupR x_lnsOf) [(0, false), (1, false), (2, false), (3, false), (4, false), (5, false), (6, true)] [(7, true)] [0, 1, 2, 3, 4, 5] (by kernel_rfl) (by cbv) ?_) | (refine aw_dr1 (id := 7) hj tok hm (bookM4 x_greatG x_ruB x_ruM x_ruN x_ruC x_ruRn x_ruRc x_rlsOf x_dupR x_lnsOf) true [(0, false), (1, false), (2, false), (3, false), (4, true), (5, true), (6, true), (7, true), (8, false), (9, false), (10, true), (11, true)] (by kernel_rfl) (by cbv) ?_) | (refine aw_dr (id := 7) hj tok hm (bookM4 x_greatG x_ruB x_ruM x_ruN x_ruC x_ruRn x_ruRc x_rlsOf x_dupR x_lnsOf) true [(0, false), (1, false), (2, false), (3, false), (4, true), (5, true), (6, true), (7, true), (8, false), (9, false), (10, true), (11, true)] (by kernel_rfl) (by cbv) ?_) | (refine aw_tr hj tok (bookM4 x_greatG x_ruB x_ruM x_ruN x_ruC x_ruRn x_ruRc x_rlsOf x_dupR x_lnsOf) (by cbv) ?_) | (refine aw_seq fun K hK => ?_) | (refine aw_tr1 hj tok (bookM4 x_greatG x_ruB x_ruM x_ruN x_ruC x_ruRn x_ruRc x_rlsOf x_dupR x_lnsOf) (by cbv) ?_) | (refine aw_skip ?_) | (refine aw_block ?_) | (refine aw_exit ?_) | (refine aw_ret ⟨.inr rfl, ret_okj hj (by cbv) ?_ ?_⟩) | (refine aw_ret ?_) | (with_reducible first | refine th_n ?_ | refine th_r ?_ | refine th_x ?_ | refine blk_n ?_ | refine blk_r ?_ | refine blk_x ?_ | refine blk_y rfl ?_) | (refine ⟨.inr rfl, ret_okj hj (by cbv) ?_ ?_⟩) | (refine ⟨.inl rfl, ret_okj hj (by cbv) ?_ ?_⟩) | (with_reducible first | refine ⟨(_, _, _, _, _, _, _, _, _), by cbv, ?_, ?_⟩ | refine ⟨(_, _, _, _, _, _), by cbv, ?_, ?_⟩ | refine ⟨(_, _, _, _, _), by cbv, ?_, ?_⟩ | refine ⟨_, by cbv, ?_, ?_⟩) | (with_reducible apply_assumption -symm -exfalso only [*]))
   all_goals ((try subst y_greatG); (try subst y_ruB); (try subst y_ruM); (try subst y_ruN); (try subst y_ruC); (try subst y_ruRn); (try subst y_ruRc); (try subst y_rlsOf); (try subst y_dupR); (try subst y_lnsOf); (try subst y_rsE); (try subst y_grA); (try subst y_grB); (try subst y_grR); (try subst y_rC); (try subst y_nR); (try subst y_sC); (try subst y_nS))
   all_goals (try (have q : dupR (rlsOf rc) = true := (by assumption); have y2 := fun h => y2 h q))
   all_goals (try (have q : dupR (rlsOf rc) = false := (by assumption); have y3 := fun h => y3 h q))
   all_goals (try (repeat' first | with_reducible exact obl0 | with_reducible refine obl1 ?_ ?_))
   all_goals (try first | with_reducible exact True.intro | ((first | refine ob_pc hj ?_ | refine ob_pcn hj ?_); (try rw [hj]); first | exact c_twR er erc (by omega) hr64) | ((first | refine ob_le hj ?_ | refine ob_lei hj ?_ | refine ob_inb hj ?_ | refine ob_pos hj ?_ | refine ob_ne0 hj ?_ | refine ob_eqb hj ?_); (first | rfl | first | omega | (simp only [hj, std]; split <;> omega) | (simp (disch := omega) only [hj, std, cmpI, cmpB, satB, add64, sub64, ite0, pl0, pl2, pl3, sb0, if_true, if_false, eq_self, hl] <;> omega) | (simp (disch := omega) [hj, std, cmpI, cmpB, satB, add64, sub64, ite0, pl0, pl2, pl3, sb0, if_true, if_false, eq_self, hl] <;> omega))) | ((obtain ⟨r1, r2, r3, r4⟩ := y1 (by omega); rw [r1, r2, r3, r4]; rfl)) | ((obtain ⟨r1, r2, r3, r4⟩ := y2 (by omega); rw [r1, r2, r3, r4]; rfl)) | ((obtain ⟨r1, r2, r3, r4⟩ := y3 (by omega); rw [r1, r2, r3, r4, show n = u by omega, ← hnc]; exact rfl)))
end Go.Proofs.Ytgimfjmigoibgaa.A
/- Grammars of rules: the chapter's example. -/
set_option linter.unusedSimpArgs false
set_option linter.unusedVariables false
set_option maxRecDepth 100000
set_option maxHeartbeats 4000000
namespace Go.Proofs.Ytgimfjmigoibgaa.A
open Go
theorem p_of14 {s : ByteArray} {L : List Ln} {a e : Int} (h : pAll s = (L, a, e)) : pN s = L.length ∧ pC s = lnC L ∧ pA s = a ∧ pE s = e := by
 unfold pN pC pA pE; rw [h]; exact ⟨rfl, rfl, rfl, rfl⟩
theorem p_lit14 {s : ByteArray} {ts : List Tk} {v : List Ln × Int × Int} (h : lexGo s 0 = (ts, 0, 0)) (hv : rGo s.size ts ([], 0, false) = v) : pAll s = v := by
 obtain ⟨_, _, _, h4⟩ := lx_of h
 unfold pAll; rw [if_neg (by rw [h4]; decide), h]; exact hv
def xaL : List Ln := [(⟨⟨[83]⟩⟩, [[(true, ⟨⟨[97]⟩⟩), (false, ⟨⟨[83]⟩⟩)], []])]
theorem paw14 : pAll ⟨⟨[83, 32, 58, 32, 39, 97, 39, 32, 83, 32, 124, 32, 59]⟩⟩ = (xaL, 0, 0) := p_lit14 awk1 rfl
def xnL : List ByteArray := [⟨⟨[83]⟩⟩]
def xtL : List ByteArray := [⟨⟨[97]⟩⟩]
def xrL : List Rl := [(0, [-1, 0]), (0, [])]
def xaC : List C := lnC xaL
def xnC : List C := sC xnL
def xtC : List C := sC xtL
def xrC : List C := rC xrL
theorem c_pa14 : pc 13 [.v false [vS ⟨⟨[83, 32, 58, 32, 39, 97, 39, 32, 83, 32, 124, 32, 59]⟩⟩]] (rets [(false, [.st (.sl 1 xaC)]), (false, [.st (vI 0)]), (false, [.st (vI 0)])]) := by
 have := pc_parseAll ⟨⟨[83, 32, 58, 32, 39, 97, 39, 32, 83, 32, 124, 32, 59]⟩⟩ (by decide)
 obtain ⟨h1, h2, h3, h4⟩ := p_of14 paw14
 unfold rAllP at this
 rw [h1, h2, h3, h4] at this
 exact ⟨enters Try.func13 (by kernel_rfl) (by kernel_rfl), this⟩
theorem xa_res : resG xaL = (0, xtL, xrL) := by decide +kernel
theorem c_re14 : pc 16 [.v false [.sl 1 xaC]] (rets [(true, [.st (.sl 1 xnC), .st (.sl 1 xtC), .st (.sl 2 xrC)]), (false, [.st (vI 0)])]) := by
 have := pc_Resolve xaL (lnC xaL) (LnRep.of xaL) ⟨by decide, fun x hx => by obtain rfl := List.mem_singleton.1 hx; exact ⟨by decide, fun a ha => by rcases List.mem_cons.1 ha with rfl | ha; decide; obtain rfl := List.mem_singleton.1 ha; decide⟩⟩
 have e : rsE xaL = 0 := by unfold rsE; rw [xa_res]
 have ea : grA xaL = xnL := by unfold grA; rw [e]; rfl
 have eb : grB xaL = xtL := by unfold grB; rw [xa_res]
 have er : grR xaL = xrL := by unfold grR; rw [xa_res]
 rw [e, ea, eb, er] at this
 exact ⟨enters Try.func16 (by kernel_rfl) (by kernel_rfl), this⟩
theorem c_va14 : pc 15 [.v true [.sl 1 xnC, .sl 1 xtC, .sl 2 xrC]] (ret1 (.st (vB true))) := by
 have := pc_ValidG xnL xtL xrL ⟨by decide, by decide, by decide, fun r hr => by rcases List.mem_cons.1 hr with rfl | hr; decide; obtain rfl := List.mem_singleton.1 hr; decide, fun s hs => by obtain rfl := List.mem_singleton.1 hs; decide, fun s hs => by obtain rfl := List.mem_singleton.1 hs; decide⟩
 have e : validG xnL xtL xrL = true := by decide +kernel
 rw [e] at this
 exact ⟨enters Try.func15 (by kernel_rfl) (by kernel_rfl), this⟩
def tm14 (s : Int) : Bool := decide (s < 0)
theorem c_is14 (s : Int) : pc 31 [.v false [vI s]] (ret1 (.st (vB (tm14 s)))) := by
 refine ⟨enters Try.func31 (by kernel_rfl) (by kernel_rfl), pc_of tok Try.func31 rfl (by rfl) ?_⟩
 obtain ⟨j, hj⟩ : ∃ j : J, j = std Try.prog T := ⟨_, rfl⟩
 have hm : Try.prog.follows .mixedOrders = true := by kernel_rfl
 generalize y_tm14 : @tm14 = x_tm14 at *
 (repeat' first | ((first | with_reducible refine tr_cut (fun h => ?_) (fun h => ?_) | refine aw_condj (by cbv) (fun h => ?_) (fun h => ?_)) <;> (try simp (disch := omega) only [hj, std, cmpI, cmpB, satB, Bool.not_eq_true, Bool.not_eq_false, decide_eq_true_eq, decide_eq_false_iff_not, beq_iff_eq, bne_iff_ne, bne_eq_false_iff_eq, beq_eq_false_iff_ne, ne_eq, reduceCtorEq, not_true_eq_false, not_false_eq_true, pl0, if_true, cmpS_eq, cmpS_neq, Bool.not_eq_eq_eq_not, Bool.not_true, Bool.not_false, Bool.not_eq_true', add64, sub64] at h) <;> (try (exfalso; omega))) | (with_reducible refine tr_alt (fun h => ?_) ?_ <;> (try (exfalso; omega))) | (with_reducible first | refine tr_ob ?_ ?_ | refine tr_done ?_) | (refine aw_tr hj tok book0 (by cbv) ?_) | (refine aw_seq fun K hK => ?_) | (refine aw_tr1 hj tok book0 (by cbv) ?_) | (refine aw_skip ?_) | (refine aw_block ?_) | (refine aw_exit ?_) | (refine aw_ret ⟨.inr rfl, ret_okj hj (by cbv) ?_ ?_⟩) | (refine aw_ret ?_) | (with_reducible first | refine th_n ?_ | refine th_r ?_ | refine th_x ?_ | refine blk_n ?_ | refine blk_r ?_ | refine blk_x ?_ | refine blk_y rfl ?_) | (refine ⟨.inr rfl, ret_okj hj (by cbv) ?_ ?_⟩) | (refine ⟨.inl rfl, ret_okj hj (by cbv) ?_ ?_⟩) | (with_reducible apply_assumption -symm -exfalso only [*]))
 all_goals ((try subst y_tm14))
 all_goals (try (repeat' first | with_reducible exact obl0 | with_reducible refine obl1 ?_ ?_))
 all_goals (try first | with_reducible exact True.intro | ((first | refine ob_le hj ?_ | refine ob_lei hj ?_ | refine ob_inb hj ?_ | refine ob_pos hj ?_ | refine ob_ne0 hj ?_ | refine ob_eqb hj ?_); (first | rfl | first | omega | (simp only [hj, std]; split <;> omega) | (simp (disch := omega) only [hj, std, cmpI, cmpB, satB, add64, sub64, ite0, pl0, pl2, pl3, sb0, if_true, if_false, eq_self] <;> omega) | (simp (disch := omega) [hj, std, cmpI, cmpB, satB, add64, sub64, ite0, pl0, pl2, pl3, sb0, if_true, if_false, eq_self] <;> omega))) | ((rw [hj]; unfold tm14; rfl)))
def bookM5 (x_xaC : List C) (x_xnC : List C) (x_xtC : List C) (x_xrC : List C) (x_tm14 : Int → Bool) : Book := fun f xs => match f, xs with
 | 13, _ => some (rets [(false, [.st (.sl 1 x_xaC)]), (false, [.st (vI 0)]), (false, [.st (vI 0)])])
 | 16, _ => some (rets [(true, [.st (.sl 1 x_xnC), .st (.sl 1 x_xtC), .st (.sl 2 x_xrC)]), (false, [.st (vI 0)])])
 | 15, _ => some (ret1 (.st (vB true)))
 | 31, [.v false [.val (.int .i64 s)]] => some (ret1 (.st (vB (x_tm14 s))))
 | _, _ => none
theorem pc_awake14 : PC Try.prog T 14 [] (ret1 (.st (vB true))) [] := by
 refine pc_of tok Try.func14 rfl (by rfl) ?_
 obtain ⟨j, hj⟩ : ∃ j : J, j = std Try.prog T := ⟨_, rfl⟩
 have hm : Try.prog.follows .mixedOrders = true := by kernel_rfl
 have z1 : gn (cellAt xrC (Int.toNat 0 * 2 + 1)) = 2 := rfl
 have z2 : gi (cellAt (gc (cellAt xrC (Int.toNat 0 * 2 + 1))) (Int.toNat 0)) = -1 := rfl
 have z3 : tm14 (-1) = true := rfl
 have z4 : tm14 0 = false := rfl
 generalize y_xaC : @xaC = x_xaC at *
 generalize y_xnC : @xnC = x_xnC at *
 generalize y_xtC : @xtC = x_xtC at *
 generalize y_xrC : @xrC = x_xrC at *
 generalize y_tm14 : @tm14 = x_tm14 at *
 (repeat' first | ((first | with_reducible refine tr_cut (fun h => ?_) (fun h => ?_) | refine aw_condj (by cbv) (fun h => ?_) (fun h => ?_)) <;> (try simp (disch := omega) only [hj, std, cmpI, cmpB, satB, Bool.not_eq_true, Bool.not_eq_false, decide_eq_true_eq, decide_eq_false_iff_not, beq_iff_eq, bne_iff_ne, bne_eq_false_iff_eq, beq_eq_false_iff_ne, ne_eq, reduceCtorEq, not_true_eq_false, not_false_eq_true, pl0, if_true, cmpS_eq, cmpS_neq, Bool.not_eq_eq_eq_not, Bool.not_true, Bool.not_false, Bool.not_eq_true', z1, z2, z3, z4, ite0, add64, sub64] at h) <;> (try (exfalso; omega))) | (with_reducible refine tr_alt (fun h => ?_) ?_ <;> (try (exfalso; omega))) | (with_reducible first | refine tr_ob ?_ ?_ | refine tr_done ?_) | (refine aw_tr hj tok (bookM5 x_xaC x_xnC x_xtC x_xrC x_tm14) (by cbv) ?_) | (refine aw_seq fun K hK => ?_) | (refine aw_tr1 hj tok (bookM5 x_xaC x_xnC x_xtC x_xrC x_tm14) (by cbv) ?_) | (refine aw_skip ?_) | (refine aw_block ?_) | (refine aw_exit ?_) | (refine aw_ret ⟨.inr rfl, ret_okj hj (by cbv) ?_ ?_⟩) | (refine aw_ret ?_) | (with_reducible first | refine th_n ?_ | refine th_r ?_ | refine th_x ?_ | refine blk_n ?_ | refine blk_r ?_ | refine blk_x ?_ | refine blk_y rfl ?_) | (refine ⟨.inr rfl, ret_okj hj (by cbv) ?_ ?_⟩) | (refine ⟨.inl rfl, ret_okj hj (by cbv) ?_ ?_⟩) | (with_reducible apply_assumption -symm -exfalso only [*]))
 all_goals ((try subst y_xaC); (try subst y_xnC); (try subst y_xtC); (try subst y_xrC); (try subst y_tm14))
 all_goals (try (repeat' first | with_reducible exact obl0 | with_reducible refine obl1 ?_ ?_))
 all_goals (try first | with_reducible exact True.intro | ((first | refine ob_pc hj ?_ | refine ob_pcn hj ?_); (try rw [hj]); first | exact c_pa14 | exact c_re14 | exact c_va14 | exact c_is14 _) | ((first | refine ob_le hj ?_ | refine ob_lei hj ?_ | refine ob_inb hj ?_ | refine ob_pos hj ?_ | refine ob_ne0 hj ?_ | refine ob_eqb hj ?_); (first | rfl | first | omega | (simp only [hj, std]; split <;> omega) | (simp (disch := omega) only [hj, std, cmpI, cmpB, satB, add64, sub64, ite0, pl0, pl2, pl3, sb0, if_true, if_false, eq_self] <;> omega) | (simp (disch := omega) [hj, std, cmpI, cmpB, satB, add64, sub64, ite0, pl0, pl2, pl3, sb0, if_true, if_false, eq_self] <;> omega))) | ((rw [hj]; exact (show _ ≤ _ by decide))) | ((rw [hj]; first | exact .inr ⟨_, _, rfl⟩ | exact ⟨_, rfl⟩)) | ((rw [hj]; rfl)))
theorem c_awake14 : pc 14 [] (ret1 (.st (vB true))) := ⟨enters Try.func14 (by kernel_rfl) (by kernel_rfl), pc_awake14⟩
end Go.Proofs.Ytgimfjmigoibgaa.A
/- Grammars of rules: what Resolve gives may be. -/
set_option linter.unusedSimpArgs false
set_option linter.unusedVariables false
set_option maxRecDepth 100000
set_option maxHeartbeats 4000000
namespace Go.Proofs.Ytgimfjmigoibgaa.A
open Go
def TsOk (P : ByteArray → Prop) (Ts : List ByteArray) : Prop := Ts.Nodup ∧ ∀ t ∈ Ts, P t
def inB (n t : Nat) (x : Int) : Prop := -(t : Int) ≤ x ∧ x < n
theorem symS_ok {P : ByteArray → Prop} {Ns Ts : List ByteArray} {it : It} (h : (it.1 || inS Ns it.2) = true) (ht : TsOk P Ts) (hp : it.1 = true → P it.2) :
  TsOk P (symS Ns Ts it).2 ∧ Ts.length ≤ (symS Ns Ts it).2.length ∧ inB Ns.length (symS Ns Ts it).2.length (symS Ns Ts it).1 := by
 unfold symS
 cases hf : it.1 with
 | false =>
  rw [hf, Bool.false_or] at h
  rw [if_neg (by simp)]
  have := ixS_lt h
  exact ⟨ht, Nat.le_refl _, by show -(Ts.length : Int) ≤ (ixS Ns it.2 : Int); omega, by show (ixS Ns it.2 : Int) < _; omega⟩
 | true =>
  rw [if_pos rfl]
  cases hi : inS Ts it.2 with
  | true =>
   rw [if_pos rfl]
   have := ixS_lt hi
   exact ⟨ht, Nat.le_refl _, by show -(Ts.length : Int) ≤ -1 - (ixS Ts it.2 : Int); omega, by show -1 - (ixS Ts it.2 : Int) < _; omega⟩
  | false =>
   rw [if_neg (by simp)]
   refine ⟨⟨?_, ?_⟩, by simp, ?_, ?_⟩
   ·rw [List.nodup_append]
    refine ⟨ht.1, by simp, fun a ha b hb => ?_⟩
    obtain rfl := List.mem_singleton.1 hb
    rintro rfl
    exact inS_not.1 hi ha
   ·intro t hm1
    rcases List.mem_append.1 hm1 with q | q
    ·exact ht.2 t q
    ·obtain rfl := List.mem_singleton.1 q
     exact hp hf
   ·show -((Ts ++ [it.2]).length : Int) ≤ -1 - (Ts.length : Int)
    rw [List.length_append]; simp; omega
   ·show -1 - (Ts.length : Int) < _
    omega
theorem inB_mono {n t u : Nat} {x : Int} (h : inB n t x) (hu : t ≤ u) : inB n u x := ⟨by have := h.1; omega, h.2⟩
theorem altS_ok {P : ByteArray → Prop} {Ns : List ByteArray} : ∀ (l : List It) (R : List Int) (Ts : List ByteArray), TsOk P Ts → (∀ x ∈ R, inB Ns.length Ts.length x) → (∀ it ∈ l, it.1 = true → P it.2) →
    TsOk P (altS Ns l (R, Ts)).2.2 ∧ Ts.length ≤ (altS Ns l (R, Ts)).2.2.length ∧ ∀ x ∈ (altS Ns l (R, Ts)).2.1, inB Ns.length (altS Ns l (R, Ts)).2.2.length x := by
  intro l
  induction l with
  | nil => intro R Ts h1 h2 _; exact ⟨h1, Nat.le_refl _, h2⟩
  | cons it l ih =>
    intro R Ts h1 h2 h3
    unfold altS
    split
    · rename_i hb
      obtain ⟨k1, k2, k3⟩ := symS_ok hb h1 (h3 it (List.mem_cons_self ..))
      obtain ⟨m1, m2, m3⟩ := ih (R ++ [(symS Ns Ts it).1]) (symS Ns Ts it).2 k1 (fun x hx => by
        rcases List.mem_append.1 hx with q | q
        · exact inB_mono (h2 x q) k2
        · obtain rfl := List.mem_singleton.1 q; exact k3) fun i hi => h3 i (List.mem_cons_of_mem _ hi)
      exact ⟨m1, Nat.le_trans k2 m2, m3⟩
    · exact ⟨h1, Nat.le_refl _, h2⟩
def RsOk (n t : Nat) (i : Int) (Rs : List Rl) : Prop := ∀ r ∈ Rs, (0 ≤ r.1 ∧ r.1 < i) ∧ ∀ x ∈ r.2, inB n t x
theorem RsOk.mono {n t u : Nat} {i k : Int} {Rs : List Rl} (h : RsOk n t i Rs) (hu : t ≤ u) (hi : i ≤ k) : RsOk n u k Rs := fun r hr => ⟨⟨(h r hr).1.1, by have := (h r hr).1.2; omega⟩, fun x hx => inB_mono ((h r hr).2 x hx) hu⟩
theorem lineF_ok {P : ByteArray → Prop} {Ns : List ByteArray} {i : Int} (h0 : 0 ≤ i) : ∀ (A : List (List It)) (st : NTR), TsOk P st.1 → RsOk Ns.length st.1.length (i + 1) st.2 → (∀ a ∈ A, ∀ it ∈ a, it.1 = true → P it.2) → (lineF Ns i A st).1 = true →
    TsOk P (lineF Ns i A st).2.1 ∧ RsOk Ns.length (lineF Ns i A st).2.1.length (i + 1) (lineF Ns i A st).2.2 ∧ (lineF Ns i A st).2.2.length = st.2.length + A.length ∧ (∀ r ∈ st.2, r ∈ (lineF Ns i A st).2.2) ∧ (A ≠ [] → ∃ r ∈ (lineF Ns i A st).2.2, r.1 = i) := by
  intro A
  induction A with
  | nil => intro st h1 h2 _ _; exact ⟨h1, h2, rfl, fun r hr => hr, fun q => absurd rfl q⟩
  | cons a A ih =>
    intro st h1 h2 h3 h4
    unfold lineF at h4 ⊢
    by_cases hb : (altS Ns a ([], st.1)).1 = true
    · rw [if_pos hb] at h4 ⊢
      obtain ⟨k1, k2, k3⟩ := altS_ok (P := P) (Ns := Ns) a [] st.1 h1 (fun x hx => by cases hx) (h3 a (List.mem_cons_self ..))
      obtain ⟨m1, m2, m3, m4, m5⟩ := ih ((altS Ns a ([], st.1)).2.2, st.2 ++ [(i, (altS Ns a ([], st.1)).2.1)]) k1 (fun r hr => by
        rcases List.mem_append.1 hr with q | q
        · exact RsOk.mono h2 k2 (Int.le_refl _) r q
        · obtain rfl := List.mem_singleton.1 q; exact ⟨⟨h0, by show i < i + 1; omega⟩, k3⟩) (fun a ha => h3 a (List.mem_cons_of_mem _ ha)) h4
      refine ⟨m1, m2, by rw [m3]; simp; omega, fun r hr => m4 r (List.mem_append_left _ hr), fun _ => ⟨_, m4 _ (List.mem_append_right _ (List.mem_singleton_self _)), rfl⟩⟩
    · rw [if_neg hb] at h4; cases h4
def LnOk (P : ByteArray → Prop) (L : List Ln) : Prop := ∀ x ∈ L, x.2 ≠ [] ∧ ∀ a ∈ x.2, ∀ it ∈ a, it.1 = true → P it.2
theorem linesF_ok {P : ByteArray → Prop} {Ns : List ByteArray} : ∀ (L : List Ln) (i : Int) (st : NTR), 0 ≤ i → TsOk P st.1 → RsOk Ns.length st.1.length i st.2 → LnOk P L → (linesF Ns i L st).1 = true →
  TsOk P (linesF Ns i L st).2.1 ∧ RsOk Ns.length (linesF Ns i L st).2.1.length (i + L.length) (linesF Ns i L st).2.2 ∧ (linesF Ns i L st).2.2.length = st.2.length + altsN L ∧ (∀ r ∈ st.2, r ∈ (linesF Ns i L st).2.2) ∧ (∀ k : Nat, k < L.length → ∃ r ∈ (linesF Ns i L st).2.2, r.1 = i + k) := by
 intro L
 induction L with
 | nil => intro i st _ h1 h2 _ _; exact ⟨h1, h2.mono (Nat.le_refl _) (by simp), rfl, fun r hr => hr, fun k hk => by simp at hk⟩
 | cons x L ih =>
  intro i st h0 h1 h2 h3 h4
  rw [linesF_cons] at h4 ⊢
  unfold contF at h4 ⊢
  by_cases hb : (lineF Ns i x.2 st).1 = true
  ·rw [if_pos hb] at h4 ⊢
   obtain ⟨hx, hi⟩ := h3 x (List.mem_cons_self ..)
   obtain ⟨k1, k2, k3, k4, k5⟩ := lineF_ok h0 x.2 st h1 (h2.mono (Nat.le_refl _) (by omega)) hi hb
   obtain ⟨m1, m2, m3, m4, m5⟩ := ih (i + 1) (lineF Ns i x.2 st).2 (by omega) k1 k2 (fun y hy => h3 y (List.mem_cons_of_mem _ hy)) h4
   refine ⟨m1, m2.mono (Nat.le_refl _) (by rw [List.length_cons]; omega), ?_, fun r hr => m4 r (k4 r hr), fun k hk => ?_⟩
   ·rw [m3, k3]; unfold altsN; rw [List.map_cons, List.sum_cons]; omega
   ·cases k with
    | zero =>
     obtain ⟨r, hr, e⟩ := k5 hx
     exact ⟨r, m4 r hr, by rw [e]; omega⟩
    | succ k =>
     obtain ⟨r, hr, e⟩ := m5 k (by simpa using hk)
     exact ⟨r, hr, by rw [e]; omega⟩
  ·rw [if_neg hb] at h4; cases h4
end Go.Proofs.Ytgimfjmigoibgaa.A
/- Grammars as lines, and back: the plain law. -/
set_option linter.unusedSimpArgs false
set_option linter.unusedVariables false
set_option maxRecDepth 100000
set_option maxHeartbeats 4000000
namespace Go.Proofs.Ytgimfjmigoibgaa.A
open Go
def itG (ns ts : List ByteArray) (s : Int) : It := if s < 0 then (true, sAt ts (-1 - s).toNat) else (false, sAt ns s.toNat)
def altG (ns ts : List ByteArray) (r : Rl) : List It := r.2.map (itG ns ts)
def ofL1 (rs : List Rl) (i : Int) : List Rl := rs.filter fun r => decide (r.1 = i)
def lineG (ns ts : List ByteArray) (rs : List Rl) (i : Nat) : Ln := (sAt ns i, (ofL1 rs i).map (altG ns ts))
def lnG (ns ts : List ByteArray) (rs : List Rl) : List Ln := (List.range ns.length).map (lineG ns ts rs)
def ordGo : Nat → List Int → Option Nat
 | n, [] => some n
 | n, s :: l => if s < 0 ∧ (n : Int) < -1 - s then none else ordGo (if s = -1 - (n : Int) then n + 1 else n) l
def ordF : Int → Nat → List Rl → Option Nat
 | _, n, [] => some n
 | p, n, r :: l => if r.1 < p then none else match ordGo n r.2 with | none => none | some m => ordF r.1 m l
def ordG (ts : List ByteArray) (rs : List Rl) : Bool := decide (ordF (rAt rs 0).1 0 rs = some ts.length)
theorem ordGo_ge : ∀ (l : List Int) (n m : Nat), ordGo n l = some m → n ≤ m := by
 intro l
 induction l with
 | nil => intro n m h; cases h; exact Nat.le_refl _
 | cons s l ih =>
  intro n m h
  unfold ordGo at h
  split at h
  ·cases h
  ·have := ih _ _ h
   split at this <;> omega
theorem ordF_ge : ∀ (l : List Rl) (p : Int) (n m : Nat), ordF p n l = some m → n ≤ m ∧ ∀ r ∈ l, p ≤ r.1 := by
 intro l
 induction l with
 | nil => intro p n m h; cases h; exact ⟨Nat.le_refl _, fun r h => by cases h⟩
 | cons r l ih =>
  intro p n m h
  unfold ordF at h
  split at h
  ·cases h
  ·rename_i hp
   split at h
   ·cases h
   ·rename_i k hk
    obtain ⟨h1, h2⟩ := ih _ _ _ h
    have := ordGo_ge _ _ _ hk
    refine ⟨by omega, fun x hx => ?_⟩
    rcases List.mem_cons.1 hx with rfl | hx
    ·omega
    ·have := h2 x hx; omega
theorem ixS_at {l : List ByteArray} (hd : l.Nodup) {k : Nat} (hk : k < l.length) : inS l (sAt l k) = true ∧ ixS l (sAt l k) = k := by
 have hm : sAt l k ∈ l := by rw [sAt_get hk]; exact List.getElem_mem hk
 have h1 := inS_iff.2 hm
 refine ⟨h1, ?_⟩
 have h2 := ixS_lt h1
 have h3 : l[ixS l (sAt l k)] = sAt l k := of_decide_eq_true (List.findIdx_getElem (w := h2))
 exact (List.getElem_inj hd).1 (h3.trans (sAt_get hk))
theorem sAt_take {l : List ByteArray} {n k : Nat} (h : k < n) (hn : n ≤ l.length) : sAt (l.take n) k = sAt l k := by
 rw [sAt_get (by rw [List.length_take]; omega), sAt_get (by omega), List.getElem_take]
theorem altS_ord {ns ts : List ByteArray} (hn : ns.Nodup) (ht : ts.Nodup) : ∀ (l R : List Int) (n m : Nat), (∀ x ∈ l, inB ns.length ts.length x) → m ≤ ts.length → ordGo n l = some m →
  altS ns (l.map (itG ns ts)) (R, ts.take n) = (true, R ++ l, ts.take m) := by
 intro l
 induction l with
 | nil => intro R n m _ _ h; cases h; simp [altS]
 | cons s l ih =>
  intro R n m hb hm h
  unfold ordGo at h
  split at h
  ·cases h
  ·rename_i hs
   obtain ⟨b1, b2⟩ := hb s (List.mem_cons_self ..)
   have hge := ordGo_ge _ _ _ h
   have hnm : n ≤ ts.length := by split at hge <;> omega
   have hl : (ts.take n).length = n := by rw [List.length_take]; omega
   have key : ((itG ns ts s).1 || inS ns (itG ns ts s).2) = true ∧ (symS ns (ts.take n) (itG ns ts s)).1 = s ∧ (symS ns (ts.take n) (itG ns ts s)).2 = ts.take (if s = -1 - (n : Int) then n + 1 else n) := by
    unfold itG
    by_cases c : s < 0
    ·rw [if_pos c]
     refine ⟨rfl, ?_⟩
     unfold symS
     rw [if_pos rfl]
     have ht2 : (-1 - s).toNat < ts.length := by omega
     by_cases e : s = -1 - (n : Int)
     ·rw [if_pos e]
      rw [if_pos e] at hge
      have hk : (-1 - s).toNat = n := by omega
      rw [hk] at ht2 ⊢
      have hno : inS (ts.take n) (sAt ts n) = false := by
       rw [inS_not]
       intro q
       obtain ⟨i, hi, he⟩ := List.mem_iff_getElem.1 q
       rw [List.getElem_take, sAt_get ht2] at he
       have := (List.getElem_inj ht).1 he
       rw [hl] at hi; omega
      rw [if_neg (by show ¬ (inS (ts.take n) (sAt ts n) = true); rw [hno]; decide)]
      refine ⟨?_, ?_⟩
      ·show -1 - ((ts.take n).length : Int) = s
       rw [hl]; omega
      ·show ts.take n ++ [sAt ts n] = _
       rw [List.take_succ_eq_append_getElem ht2, sAt_get ht2]
     ·rw [if_neg e]
      have hk : (-1 - s).toNat < n := by
       have : ¬ (n : Int) < -1 - s := fun q => hs ⟨c, q⟩
       omega
      obtain ⟨i1, i2⟩ := ixS_at (List.Nodup.sublist (List.take_sublist n ts) ht) (k := (-1 - s).toNat) (by omega)
      rw [sAt_take hk hnm] at i1 i2
      rw [if_pos i1]
      refine ⟨?_, rfl⟩
      show -1 - (ixS (ts.take n) (sAt ts (-1 - s).toNat) : Int) = s
      rw [i2]; omega
    ·rw [if_neg c]
     have hk : s.toNat < ns.length := by omega
     obtain ⟨i1, i2⟩ := ixS_at hn hk
     refine ⟨by show (false || inS ns (sAt ns s.toNat)) = true; rw [i1]; rfl, ?_⟩
     unfold symS
     rw [if_neg (by simp), if_neg (by omega)]
     refine ⟨?_, rfl⟩
     show (ixS ns (sAt ns s.toNat) : Int) = s
     rw [i2]; omega
   rw [List.map_cons]
   unfold altS
   rw [if_pos key.1]
   dsimp only
   rw [key.2.1, key.2.2, ih _ _ _ (fun x hx => hb x (List.mem_cons_of_mem _ hx)) hm h]
   simp
theorem lineF_ord {ns ts : List ByteArray} (hn : ns.Nodup) (ht : ts.Nodup) {i : Int} : ∀ (pre post acc : List Rl) (p : Int) (n N : Nat), (∀ r ∈ pre, r.1 = i ∧ ∀ x ∈ r.2, inB ns.length ts.length x) → N ≤ ts.length → ordF p n (pre ++ post) = some N →
  ∃ m q, lineF ns i (pre.map (altG ns ts)) (ts.take n, acc) = (true, ts.take m, acc ++ pre) ∧ ordF q m post = some N := by
 intro pre
 induction pre with
 | nil => intro post acc p n N _ _ h; exact ⟨n, p, by simp [lineF], h⟩
 | cons r pre ih =>
  intro post acc p n N hr hN h
  rw [List.cons_append] at h
  unfold ordF at h
  split at h
  ·cases h
  ·split at h
   ·cases h
   ·rename_i k hk
    have hkN := (ordF_ge _ _ _ _ h).1
    obtain ⟨h1, h2⟩ := hr r (List.mem_cons_self ..)
    have ha := altS_ord hn ht r.2 [] n k h2 (by omega) hk
    obtain ⟨m, q, g1, g2⟩ := ih post (acc ++ [(i, r.2)]) r.1 k N (fun x hx => hr x (List.mem_cons_of_mem _ hx)) hN h
    refine ⟨m, q, ?_, g2⟩
    rw [List.map_cons]
    unfold lineF
    unfold altG at g1 ⊢
    rw [ha]
    simp only [if_true, List.nil_append]
    rw [g1]
    have : (i, r.2) = r := by rw [← h1]
    rw [this]; simp
theorem span_left (rest : List Rl) (i : Int) : ∃ pre post, rest = pre ++ post ∧ (∀ r ∈ pre, r.1 = i) ∧ ∀ r l, post = r :: l → r.1 ≠ i := by
 induction rest with
 | nil => exact ⟨[], [], rfl, (fun r h => by cases h), (fun r l h => by cases h)⟩
 | cons r rest ih =>
  by_cases h : r.1 = i
  ·obtain ⟨pre, post, h1, h2, h3⟩ := ih
   refine ⟨r :: pre, post, by rw [h1]; rfl, fun x hx => ?_, h3⟩
   rcases List.mem_cons.1 hx with rfl | hx
   ·exact h
   ·exact h2 x hx
  ·exact ⟨[], r :: rest, rfl, (fun r h => by cases h), fun x l hx => by cases hx; exact h⟩
theorem ofL1_app (a b : List Rl) (i : Int) : ofL1 (a ++ b) i = ofL1 a i ++ ofL1 b i := by unfold ofL1; exact List.filter_append ..
theorem ofL1_none {a : List Rl} {i : Int} (h : ∀ r ∈ a, r.1 ≠ i) : ofL1 a i = [] := by
 unfold ofL1; rw [List.filter_eq_nil_iff]
 intro r hr; rw [decide_eq_true_eq]; exact h r hr
theorem ofL1_all {a : List Rl} {i : Int} (h : ∀ r ∈ a, r.1 = i) : ofL1 a i = a := by
 unfold ofL1; rw [List.filter_eq_self]
 intro r hr; rw [decide_eq_true_eq]; exact h r hr
theorem linesF_ord {ns ts : List ByteArray} (hn : ns.Nodup) (ht : ts.Nodup) {N : Nat} (hN : N ≤ ts.length) : ∀ (c i : Nat) (rest acc : List Rl) (p : Int) (n : Nat), (∀ r ∈ rest, (i : Int) ≤ r.1 ∧ r.1 < ((i + c : Nat) : Int) ∧ ∀ x ∈ r.2, inB ns.length ts.length x) → ordF p n rest = some N →
    linesF ns i ((List.range' i c).map (lineG ns ts rest)) (ts.take n, acc) = (true, ts.take N, acc ++ rest) := by
  intro c
  induction c with
  | zero =>
    intro i rest acc p n h ho
    have : rest = [] := by
      cases rest with
      | nil => rfl
      | cons r l => have := h r (List.mem_cons_self ..); omega
    subst this
    cases ho
    simp [linesF]
  | succ c ih =>
    intro i rest acc p n h ho
    obtain ⟨pre, post, rfl, h1, h2⟩ := span_left rest (i : Int)
    have hpre : ∀ r ∈ pre, r.1 = (i : Int) ∧ ∀ x ∈ r.2, inB ns.length ts.length x := fun r hr => ⟨h1 r hr, (h r (List.mem_append_left _ hr)).2.2⟩
    obtain ⟨m, q, g1, g2⟩ := lineF_ord hn ht pre post acc p n N hpre hN ho
    have hpost : ∀ r ∈ post, ((i + 1 : Nat) : Int) ≤ r.1 := by
      intro r hr
      cases hp : post with
      | nil => rw [hp] at hr; cases hr
      | cons r0 l =>
        have a1 := h2 r0 l hp
        have a2 := (h r0 (List.mem_append_right _ (by rw [hp]; exact List.mem_cons_self ..))).1
        have a3 : ∀ x ∈ l, r0.1 ≤ x.1 := by
          rw [hp] at g2
          unfold ordF at g2
          split at g2
          · cases g2
          · split at g2
            · cases g2
            · exact (ordF_ge _ _ _ _ g2).2
        rw [hp] at hr
        rcases List.mem_cons.1 hr with rfl | hr
        · omega
        · have := a3 r hr; omega
    have e1 : ofL1 (pre ++ post) (i : Int) = pre := by
      rw [ofL1_app, ofL1_all h1, ofL1_none (a := post) (fun r hr => by have := hpost r hr; omega), List.append_nil]
    have e2 : ∀ k ∈ List.range' (i + 1) c, lineG ns ts (pre ++ post) k = lineG ns ts post k := by
      intro k hk
      have hk2 := (List.mem_range'_1.1 hk).1
      unfold lineG
      rw [ofL1_app, ofL1_none (a := pre) (fun r hr => by have := h1 r hr; omega), List.nil_append]
    have g3 := ih (i + 1) post (acc ++ pre) q m (fun r hr => by
      have a := h r (List.mem_append_right _ hr)
      exact ⟨hpost r hr, by omega, a.2.2⟩) g2
    rw [List.range'_succ, List.map_cons]
    unfold linesF
    have hline : (lineG ns ts (pre ++ post) i).2 = pre.map (altG ns ts) := by show (ofL1 (pre ++ post) (i : Int)).map (altG ns ts) = _; rw [e1]
    rw [hline, g1, if_pos rfl, List.map_congr_left e2]
    show linesF ns ((i : Int) + 1) _ _ = _
    rw [show ((i : Int) + 1) = ((i + 1 : Nat) : Int) by omega, g3]
    simp
theorem fit_inB {n t : Nat} {l : List Int} (h : hasB n t l = false) : ∀ x ∈ l, inB n t x := by
 intro x hx
 unfold hasB at h
 rw [List.any_eq_false] at h
 have := h x hx
 unfold badI at this
 rw [decide_eq_true_eq] at this
 exact ⟨by omega, by omega⟩
theorem lnG_names (ns ts : List ByteArray) (rs : List Rl) : namesL (lnG ns ts rs) = ns := by
 unfold namesL lnG
 rw [List.map_map]
 refine List.ext_getElem (by simp) fun k h1 h2 => ?_
 rw [List.getElem_map, List.getElem_range]
 show sAt ns k = _
 rw [sAt_get h2]
theorem lnG_len (ns ts : List ByteArray) (rs : List Rl) : (lnG ns ts rs).length = ns.length := by simp [lnG]
theorem lAt_lnG {ns ts : List ByteArray} {rs : List Rl} {i : Nat} (h : i < ns.length) : lAt (lnG ns ts rs) i = lineG ns ts rs i := by
 unfold lnG; rw [lAt, List.getD_eq_getElem?_getD, List.getElem?_map, List.getElem?_range h]; rfl
theorem back_law {ns ts : List ByteArray} {rs : List Rl} (hv : validG ns ts rs = true) (ho : ordG ts rs = true) : rsE (lnG ns ts rs) = 0 ∧ grA (lnG ns ts rs) = ns ∧ grB (lnG ns ts rs) = ts ∧ grR (lnG ns ts rs) = rs := by
 obtain ⟨⟨v1, v2, v3⟩, v4, v5, v6, v7, v8⟩ := validG_iff.1 hv
 have hn := (dst_iff.1 v4).2
 have ht := (dst_iff.1 v5).2
 rw [nS_eq] at v1 v2 v6 v7
 rw [nS_eq] at v2 v6
 rw [nR_eq] at v3
 unfold ordG at ho; rw [decide_eq_true_eq] at ho
 have hf : ∀ r ∈ rs, 0 ≤ r.1 ∧ r.1 < ns.length ∧ r.2.length ≤ 64 ∧ ∀ x ∈ r.2, inB ns.length ts.length x := fun r hr => by
  have := v6 r hr
  unfold fitR at this
  rw [Bool.and_eq_true, decide_eq_true_eq, Bool.not_eq_true', nI_eq] at this
  exact ⟨this.1.1, this.1.2.1, this.1.2.2, fit_inB this.2⟩
 have hL := linesF_ord hn ht (N := ts.length) (Nat.le_refl _) ns.length 0 rs [] _ 0 (fun r hr => ⟨(hf r hr).1, by have := (hf r hr).2.1; omega, (hf r hr).2.2.2⟩) ho
 rw [← List.range_eq_range', List.take_length, List.nil_append, List.take_zero] at hL
 have hL2 : linesF (namesL (lnG ns ts rs)) 0 (lnG ns ts rs) ([], []) = (true, ts, rs) := by rw [lnG_names]; exact hL
 have hO : LnOk (fun _ => True) (lnG ns ts rs) := by
  intro x hx
  unfold lnG at hx
  obtain ⟨i, hi, rfl⟩ := List.mem_map.1 hx
  refine ⟨fun q => ?_, fun _ _ _ _ _ => trivial⟩
  obtain ⟨r, hr, e⟩ := v7 i (List.mem_range.1 hi)
  have : ofL1 rs i = [] := List.map_eq_nil_iff.1 q
  unfold ofL1 at this
  rw [List.filter_eq_nil_iff] at this
  exact this r hr (decide_eq_true e)
 have hA : altsN (lnG ns ts rs) = rs.length := by
  have := (linesF_ok (P := fun _ => True) (Ns := namesL (lnG ns ts rs)) (lnG ns ts rs) 0 ([], []) (Int.le_refl _) ⟨List.nodup_nil, fun _ _ => trivial⟩ (fun r q => by cases q) hO (by rw [hL2])).2.2.1
  rw [hL2] at this
  simpa using this.symm
 have hg : greatG (lnG ns ts rs) = false := by
  rw [great_end, hA, lnG_len, Bool.or_eq_false_iff, decide_eq_false_iff_not, decide_eq_false_iff_not]
  ·exact ⟨by omega, by omega⟩
  ·intro i hi k hk
   rw [lnG_len] at hi
   rw [lAt_lnG hi] at hk ⊢
   have hm := aAt_mem hk
   unfold lineG at hm
   obtain ⟨r, hr, e⟩ := List.mem_map.1 hm
   have hr2 := (List.mem_filter.1 hr).1
   show (aAt (lineG ns ts rs i).2 k).length ≤ 64
   unfold lineG
   rw [← e]
   unfold altG
   rw [List.length_map]
   exact (hf r hr2).2.2.1
 have hres : resG (lnG ns ts rs) = (0, ts, rs) := by
  unfold resG
  rw [if_neg (by simp [hg]), if_neg (by rw [lnG_names]; exact fun q => q hn), hL2, if_neg (by simp), if_neg (by rw [lnG_len]; show ¬ 256 < ns.length + ts.length; omega), if_neg (by simp [v8])]
 have e : rsE (lnG ns ts rs) = 0 := by unfold rsE; rw [hres]
 refine ⟨e, by unfold grA; rw [if_pos e, lnG_names], by unfold grB; rw [hres], by unfold grR; rw [hres]⟩
end Go.Proofs.Ytgimfjmigoibgaa.A
/- Grammars: which may be, by the reference. -/
set_option linter.unusedSimpArgs false
set_option linter.unusedVariables false
set_option maxRecDepth 100000
set_option maxHeartbeats 4000000
namespace Go.Proofs.Ytgimfjmigoibgaa.A
open Go
theorem idxGo_at (w : ByteArray) : ∀ (l : List ByteArray) (i0 : Int) (n : Nat) (hn : n < l.length), l[n] = w → (∀ k (hk : k < n), l[k] ≠ w) → idxGo w l i0 = i0 + n := by
 intro l
 induction l with
 | nil => intro i0 n hn; exact absurd hn (by simp)
 | cons x l ih =>
  intro i0 n hn e h
  unfold idxGo
  cases n with
  | zero => rw [if_pos (by simpa using e.symm)]; simp
  | succ n =>
   rw [if_neg (fun e2 => h 0 (by omega) (by simpa using e2.symm)), ih (i0 + 1) n (by simpa using hn) (by simpa using e) (fun k hk => by simpa using h (k + 1) (by omega))]
   omega
theorem idxGo_le (w : ByteArray) : ∀ (l : List ByteArray) (i0 : Int) (n : Nat) (hn : n < l.length), l[n] = w → idxGo w l i0 ≤ i0 + n := by
 intro l
 induction l with
 | nil => intro i0 n hn; exact absurd hn (by simp)
 | cons x l ih =>
  intro i0 n hn e
  unfold idxGo
  split
  ·omega
  ·cases n with
   | zero => rename_i h; exact absurd (by simpa using e.symm) h
   | succ n => have := ih (i0 + 1) n (by simpa using hn) (by simpa using e); omega
theorem idx_first {l : List ByteArray} {i : Int} (h0 : 0 ≤ i) (hi : i < nS l) : idxS l (sAt l i.toNat) = i ↔ ∀ k : Nat, k < i.toNat → sAt l k ≠ sAt l i.toNat := by
 have hn := nS_eq l
 have hl : i.toNat < l.length := by omega
 constructor
 ·intro h k hk e
  rw [sAt_get (by omega), sAt_get hl] at e
  have := idxGo_le (sAt l i.toNat) l 0 k (by omega) (by rw [sAt_get hl]; exact e)
  unfold idxS at h
  omega
 ·intro h
  have := idxGo_at (sAt l i.toNat) l 0 i.toNat hl (sAt_get hl).symm (fun k hk => by have := h k hk; rwa [sAt_get (by omega)] at this)
  unfold idxS; omega
theorem dst_no3 {p : ByteArray → Bool} {l : List ByteArray} {i : Int} (h0 : 0 ≤ i) (hi : i < nS l) (h : ¬ idxS l (sAt l i.toNat) = i) : dstS p l = false :=
  decide_eq_false fun hh => h ((idx_first h0 hi).2 fun k hk e => by
    have hn := nS_eq l
    rw [sAt_get (by omega), sAt_get (by omega)] at e
    exact List.pairwise_iff_getElem.1 hh.2 k i.toNat (by omega) (by omega) hk e)
theorem dst_all {p : ByteArray → Bool} {l : List ByteArray} (h1 : ∀ n : Nat, n < nS l → p (sAt l n) = true) (h2 : ∀ n : Nat, n < nS l → idxS l (sAt l n) = (n : Int)) : dstS p l = true := by
 refine decide_eq_true ⟨fun s hs => by obtain ⟨n, hn, rfl⟩ := mem_sAt hs; exact h1 n hn, List.pairwise_iff_getElem.2 fun k n hk hn hkn e => ?_⟩
 have hl := nS_eq l
 have h3 := (idx_first (l := l) (i := (n : Int)) (by omega) (by omega)).1 (h2 n (by omega)) k (by omega)
 rw [show ((n : Int)).toNat = n by omega, sAt_get hn, sAt_get hk] at h3
 exact h3 e
theorem fit_all {n t : Nat} {x : Int} {l : List Int} (h : 0 ≤ x ∧ x < n ∧ nI l ≤ 64) (h2 : ∀ m : Nat, m < nI l → badI n t (iAt l m) = false) : fitR n t (x, l) = true := by
 rw [fit_yes h, Bool.not_eq_true']
 unfold hasB
 rw [List.any_eq_false]
 intro s hs
 obtain ⟨m, hm, rfl⟩ := mem_iAt hs
 rw [h2 m hm]; decide
theorem fit_no2 {n t : Nat} {r : Rl} {k : Int} (h0 : 0 ≤ k) (hk : k < nI r.2) (h : badI n t (iAt r.2 k.toNat) = true) : fitR n t r = false := by
 unfold fitR hasB
 have : r.2.any (badI n t) = true := List.any_eq_true.2 ⟨_, iAt_mem r.2 k h0 hk, h⟩
 rw [this]; simp
def bookG7 (x_rlsOf : List C → List Rl) (x_dupR : List Rl → Bool) (x_strsOf : List C → List ByteArray) (x_idxS : List ByteArray → ByteArray → Int) (x_nameI : ByteArray → Bool) (x_termI : ByteArray → Bool) : Book := fun f xs => match f, xs with
 | 39, [.v false [.val (.string s)]] => some (ret1 (.st (vB (x_nameI s))))
 | 41, [.v false [.val (.string s)]] => some (ret1 (.st (vB (x_termI s))))
 | 40, [.v false [.sl _ cs], .v false [.val (.string s)]] => some (ret1 (.st (vI (x_idxS (x_strsOf cs) s))))
 | 42, [.v false [.sl _ cs]] => some (ret1 (.st (vB (x_dupR (x_rlsOf cs)))))
 | _, _ => none
theorem c_Find {l : List ByteArray} {w : ByteArray} (hl : nS l < 4611686018427387904) : pc 40 [.v false [(C.sl (nS l) (sC l))], .v false [vS w]] (ret1 (.st (vI (idxS (strsOf (sC l)) w)))) := by
 rw [strsOf_sC]
 exact ⟨enters Try.func40 (by kernel_rfl) (by kernel_rfl), pc_Find l w hl⟩
theorem c_tw14 {rs : List Rl} (h : nR rs ≤ 1000000) (hr : ∀ r ∈ rs, nI r.2 ≤ 1000000) : pc 42 [.v false [(C.sl (nR rs) (rC rs))]] (ret1 (.st (vB (dupR (rlsOf (rC rs)))))) := by
 rw [rlsOf_rC]
 exact ⟨enters Try.func42 (by kernel_rfl) (by kernel_rfl), pc_twice14 rs (by omega) fun r hh => by have := hr r hh; omega⟩
def hasL (rs : List Rl) (i : Int) (k : Int) : Bool := (rs.take k.toNat).any fun r => decide (r.1 = i)
theorem hasL_step {rs : List Rl} {i k : Int} (h0 : 0 ≤ k) (hk : k < nR rs) : hasL rs i (k + 1) = (hasL rs i k || decide ((rAt rs k.toNat).1 = i)) := by
 have hn := nR_eq rs
 have e : (k + 1).toNat = k.toNat + 1 := by omega
 unfold hasL
 rw [e, take_snoc (0, []) (by omega), List.any_append]
 simp
theorem hasL_end {rs : List Rl} {i k : Int} (hk : ¬ k < nR rs) : hasL rs i k = true ↔ ∃ r ∈ rs, r.1 = i := by
 have hn := nR_eq rs
 unfold hasL
 rw [List.take_of_length_le (by omega), List.any_eq_true]
 simp
theorem pc_Valid14 (ns ts : List ByteArray) (rs : List Rl) (hS : Sml ns ts rs) : PC Try.prog T 19 [.v true [(C.sl (nS ns) (sC ns)), (C.sl (nS ts) (sC ts)), (C.sl (nR rs) (rC rs))]] (ret1 (.st (vB (validG ns ts rs)))) [] := by
 have ha := hS.n; have hb := hS.t; have hc := hS.r
 have nn := nS_eq ns; have nt := nS_eq ts; have nr := nR_eq rs
 refine pc_of tok Try.func19 rfl (by rfl) ?_
 obtain ⟨j, hj⟩ : ∃ j : J, j = std Try.prog T := ⟨_, rfl⟩
 have hm : Try.prog.follows .mixedOrders = true := by kernel_rfl
 generalize y_rlsOf : @rlsOf = x_rlsOf at *
 generalize y_dupR : @dupR = x_dupR at *
 generalize y_strsOf : @strsOf = x_strsOf at *
 generalize y_idxS : @idxS = x_idxS at *
 generalize y_nameI : @nameI = x_nameI at *
 generalize y_termI : @termI = x_termI at *
 generalize y_rC : @rC = x_rC at *
 generalize y_nR : @nR = x_nR at *
 generalize y_dstS : @dstS = x_dstS at *
 generalize y_badI : @badI = x_badI at *
 generalize y_fitR : @fitR = x_fitR at *
 generalize y_validG : @validG = x_validG at *
 generalize y_sC : @sC = x_sC at *
 generalize y_iC : @iC = x_iC at *
 generalize y_nS : @nS = x_nS at *
 generalize y_nI : @nI = x_nI at *
 (repeat' first | ((first | with_reducible refine tr_cut (fun h => ?_) (fun h => ?_) | refine aw_condj (by cbv) (fun h => ?_) (fun h => ?_)) <;> (try simp (disch := omega) only [hj, std, cmpI, cmpB, satB, Bool.not_eq_true, Bool.not_eq_false, decide_eq_true_eq, decide_eq_false_iff_not, beq_iff_eq, bne_iff_ne, bne_eq_false_iff_eq, beq_eq_false_iff_ne, ne_eq, reduceCtorEq, not_true_eq_false, not_false_eq_true, pl0, if_true, cmpS_eq, cmpS_neq, Bool.not_eq_eq_eq_not, Bool.not_true, Bool.not_false, Bool.not_eq_true', add64, sub64] at h) <;> (try (exfalso; omega))) | (with_reducible refine tr_alt (fun h => ?_) ?_ <;> (try (exfalso; omega))) | (with_reducible first | refine tr_ob ?_ ?_ | refine tr_done ?_) | (refine aw_tr hj tok (bookG7 x_rlsOf x_dupR x_strsOf x_idxS x_nameI x_termI) (by cbv) ?_) | (refine aw_seq fun K hK => ?_) | (refine aw_tr1 hj tok (bookG7 x_rlsOf x_dupR x_strsOf x_idxS x_nameI x_termI) (by cbv) ?_) | (refine aw_skip ?_) | (refine aw_block ?_) | (refine aw_exit ?_) | (refine aw_ret ⟨.inr rfl, ret_okj hj (by cbv) ?_ ?_⟩) | (refine aw_ret ?_) | (with_reducible first | refine th_n ?_ | refine th_r ?_ | refine th_x ?_ | refine blk_n ?_ | refine blk_r ?_ | refine blk_x ?_ | refine blk_y rfl ?_) | (refine ⟨.inr rfl, ret_okj hj (by cbv) ?_ ?_⟩) | (refine ⟨.inl rfl, ret_okj hj (by cbv) ?_ ?_⟩) | (with_reducible first | refine ⟨(_, _, _, _), by cbv, ?_, ?_⟩ | refine ⟨(_, _), by cbv, ?_, ?_⟩ | refine ⟨_, by cbv, ?_, ?_⟩) | (with_reducible apply_assumption -symm -exfalso only [*]))
 all_goals ((try subst y_rlsOf); (try subst y_dupR); (try subst y_strsOf); (try subst y_idxS); (try subst y_nameI); (try subst y_termI); (try subst y_rC); (try subst y_nR); (try subst y_dstS); (try subst y_badI); (try subst y_fitR); (try subst y_validG); (try subst y_sC); (try subst y_iC); (try subst y_nS); (try subst y_nI))
 all_goals (try (repeat' first | with_reducible exact obl0 | (with_reducible refine obl1 ?_ ?_)))
 all_goals (try first | with_reducible exact True.intro | ((first | refine ob_le hj ?_ | refine ob_lei hj ?_ | refine ob_inb hj ?_ | refine ob_pos hj ?_ | refine ob_ne0 hj ?_ | refine ob_eqb hj ?_); (first | rfl | first | omega | (simp only [hj, std]; split <;> omega) | (simp (disch := omega) only [hj, std, cmpI, cmpB, satB, add64, sub64, ite0, pl0, pl2, pl3, sb0, if_true, if_false, eq_self] <;> omega) | (simp (disch := omega) [hj, std, cmpI, cmpB, satB, add64, sub64, ite0, pl0, pl2, pl3, sb0, if_true, if_false, eq_self] <;> omega))) | ((refine r1b ?_; exact valid_no1 (by omega))))
 refine aw_lpj hj [(1, .keep), (3, .keep)] [1] (fun (i : Int) => stOf 160 [(1, .one (.ptr 1 0)), (3, .one (.c (vI i)))] [(1, .box [.st ((C.sl (nS ns) (sC ns))), .st ((C.sl (nS ts) (sC ts))), .st ((C.sl (nR rs) (rC rs)))])]) (fun (i : Int) => nS ns - i.toNat) (fun (i : Int) => 0 ≤ i ∧ i ≤ nS ns ∧ (∀ n : Nat, (n : Int) < i → nameI (sAt ns n) = true) ∧ (∀ n : Nat, (n : Int) < i → idxS ns (sAt ns n) = (n : Int)) ∧ ∀ n : Nat, (n : Int) < i → ∃ r ∈ rs, r.1 = (n : Int)) (0) (by generalize @rlsOf = x_rlsOf; generalize @dupR = x_dupR; generalize @strsOf = x_strsOf; generalize @idxS = x_idxS; generalize @nameI = x_nameI; generalize @termI = x_termI; generalize @rC = x_rC; generalize @nR = x_nR; generalize @dstS = x_dstS; generalize @badI = x_badI; generalize @fitR = x_fitR; generalize @validG = x_validG; generalize @sC = x_sC; generalize @iC = x_iC; generalize @nS = x_nS; generalize @nI = x_nI; cbv) ?_ (fun i hI => ?_)
 ·exact ⟨by omega, by omega, fun n h => by omega, fun n h => by omega, fun n h => by omega⟩
 obtain ⟨i1, i2, i3, i4, i5⟩ := hI
 have hnn : i < nS ns → (gs (cellAt (sC ns) i.toNat)).size ≤ 1000000 := fun h => by rw [gs_sC]; exact hS.s _ (sAt_mem ns i i1 h)
 generalize y_rlsOf : @rlsOf = x_rlsOf at *
 generalize y_dupR : @dupR = x_dupR at *
 generalize y_strsOf : @strsOf = x_strsOf at *
 generalize y_idxS : @idxS = x_idxS at *
 generalize y_nameI : @nameI = x_nameI at *
 generalize y_termI : @termI = x_termI at *
 generalize y_rC : @rC = x_rC at *
 generalize y_nR : @nR = x_nR at *
 generalize y_dstS : @dstS = x_dstS at *
 generalize y_badI : @badI = x_badI at *
 generalize y_fitR : @fitR = x_fitR at *
 generalize y_validG : @validG = x_validG at *
 generalize y_sC : @sC = x_sC at *
 generalize y_iC : @iC = x_iC at *
 generalize y_nS : @nS = x_nS at *
 generalize y_nI : @nI = x_nI at *
 (repeat' first | ((first | with_reducible refine tr_cut (fun h => ?_) (fun h => ?_) | refine aw_condj (by cbv) (fun h => ?_) (fun h => ?_)) <;> (try simp (disch := omega) only [hj, std, cmpI, cmpB, satB, Bool.not_eq_true, Bool.not_eq_false, decide_eq_true_eq, decide_eq_false_iff_not, beq_iff_eq, bne_iff_ne, bne_eq_false_iff_eq, beq_eq_false_iff_ne, ne_eq, reduceCtorEq, not_true_eq_false, not_false_eq_true, pl0, if_true, cmpS_eq, cmpS_neq, Bool.not_eq_eq_eq_not, Bool.not_true, Bool.not_false, Bool.not_eq_true', add64, sub64] at h) <;> (try (exfalso; omega))) | (with_reducible refine tr_alt (fun h => ?_) ?_ <;> (try (exfalso; omega))) | (with_reducible first | refine tr_ob ?_ ?_ | refine tr_done ?_) | (refine aw_dr1 (id := 6) hj tok hm (bookG7 x_rlsOf x_dupR x_strsOf x_idxS x_nameI x_termI) true [(0, false), (1, false), (2, true), (3, true), (4, true), (5, true), (6, true), (7, true), (8, false), (9, false), (10, false), (11, false), (12, false), (13, false), (14, false), (16, false), (15, true), (17, true), (18, true)] (by kernel_rfl) (by cbv) ?_) | (refine aw_dr (id := 6) hj tok hm (bookG7 x_rlsOf x_dupR x_strsOf x_idxS x_nameI x_termI) true [(0, false), (1, false), (2, true), (3, true), (4, true), (5, true), (6, true), (7, true), (8, false), (9, false), (10, false), (11, false), (12, false), (13, false), (14, false), (16, false), (15, true), (17, true), (18, true)] (by kernel_rfl) (by cbv) ?_) | (refine aw_tr hj tok (bookG7 x_rlsOf x_dupR x_strsOf x_idxS x_nameI x_termI) (by cbv) ?_) | (refine aw_seq fun K hK => ?_) | (refine aw_tr1 hj tok (bookG7 x_rlsOf x_dupR x_strsOf x_idxS x_nameI x_termI) (by cbv) ?_) | (refine aw_skip ?_) | (refine aw_block ?_) | (refine aw_exit ?_) | (refine aw_ret ⟨.inr rfl, ret_okj hj (by cbv) ?_ ?_⟩) | (refine aw_ret ?_) | (with_reducible first | refine th_n ?_ | refine th_r ?_ | refine th_x ?_ | refine blk_n ?_ | refine blk_r ?_ | refine blk_x ?_ | refine blk_y rfl ?_) | (refine ⟨.inr rfl, ret_okj hj (by cbv) ?_ ?_⟩) | (refine ⟨.inl rfl, ret_okj hj (by cbv) ?_ ?_⟩) | (with_reducible first | refine ⟨(_, _, _, _), by cbv, ?_, ?_⟩ | refine ⟨(_, _), by cbv, ?_, ?_⟩ | refine ⟨_, by cbv, ?_, ?_⟩) | (with_reducible apply_assumption -symm -exfalso only [*]))
 all_goals ((try subst y_rlsOf); (try subst y_dupR); (try subst y_strsOf); (try subst y_idxS); (try subst y_nameI); (try subst y_termI); (try subst y_rC); (try subst y_nR); (try subst y_dstS); (try subst y_badI); (try subst y_fitR); (try subst y_validG); (try subst y_sC); (try subst y_iC); (try subst y_nS); (try subst y_nI))
 all_goals (try have q1 := ‹nameI _ = true›)
 all_goals (try have q1 := ‹nameI _ = false›)
 all_goals (try rw [gs_sC] at q1)
 all_goals (try have q2 := ‹idxS _ _ = i›)
 all_goals (try have q2 := ‹¬ idxS _ _ = i›)
 all_goals (try rw [strsOf_sC, gs_sC] at q2)
 all_goals (try (repeat' first | with_reducible exact obl0 | (with_reducible refine obl1 ?_ ?_)))
 all_goals (try first | with_reducible exact True.intro | ((first | refine ob_pc hj ?_ | refine ob_pcn hj ?_); (try rw [hj]); first | exact c_Name12 (hnn (by omega)) | exact c_Find (by omega)) | ((first | refine ob_le hj ?_ | refine ob_lei hj ?_ | refine ob_inb hj ?_ | refine ob_pos hj ?_ | refine ob_ne0 hj ?_ | refine ob_eqb hj ?_); (first | rfl | first | omega | (simp only [hj, std]; split <;> omega) | (simp (disch := omega) only [hj, std, cmpI, cmpB, satB, add64, sub64, ite0, pl0, pl2, pl3, sb0, if_true, if_false, eq_self, sC_len] <;> omega) | (simp (disch := omega) [hj, std, cmpI, cmpB, satB, add64, sub64, ite0, pl0, pl2, pl3, sb0, if_true, if_false, eq_self, sC_len] <;> omega))) | ((refine ob_ok hj ?_; simp only [hj, std, ite0]; exact ok_sC (by omega))) | ((refine r1b ?_; exact valid_no2 (dst_no1 i i1 (by omega) q1))) | ((refine r1b ?_; exact valid_no2 (dst_no3 i1 (by omega) q2))))
 ·have hil : i < nS ns := by assumption
  refine aw_lpj hj [(1, .keep), (3, .keep), (4, .keep), (5, .keep)] [1] (fun (⟨k, b⟩ : Int × Bool) => stOf 160 [(1, .one (.ptr 1 0)), (3, .one (.c (vI i))), (4, .one (.c (vB b))), (5, .one (.c (vI k)))] [(1, .box [.st ((C.sl (nS ns) (sC ns))), .st ((C.sl (nS ts) (sC ts))), .st ((C.sl (nR rs) (rC rs)))])]) (fun (⟨k, b⟩ : Int × Bool) => nR rs - k.toNat) (fun (⟨k, b⟩ : Int × Bool) => 0 ≤ k ∧ k ≤ nR rs ∧ b = hasL rs i k) ((0, false)) (by generalize @rlsOf = x_rlsOf; generalize @dupR = x_dupR; generalize @strsOf = x_strsOf; generalize @idxS = x_idxS; generalize @nameI = x_nameI; generalize @termI = x_termI; generalize @rC = x_rC; generalize @nR = x_nR; generalize @dstS = x_dstS; generalize @badI = x_badI; generalize @fitR = x_fitR; generalize @validG = x_validG; generalize @sC = x_sC; generalize @iC = x_iC; generalize @nS = x_nS; generalize @nI = x_nI; cbv) ?_ (fun ⟨k, b⟩ hI => ?_)
  ·exact ⟨by omega, by omega, rfl⟩
  obtain ⟨k1, k2, k3⟩ := hI
  generalize y_rlsOf : @rlsOf = x_rlsOf at *
  generalize y_dupR : @dupR = x_dupR at *
  generalize y_strsOf : @strsOf = x_strsOf at *
  generalize y_idxS : @idxS = x_idxS at *
  generalize y_nameI : @nameI = x_nameI at *
  generalize y_termI : @termI = x_termI at *
  generalize y_rC : @rC = x_rC at *
  generalize y_nR : @nR = x_nR at *
  generalize y_dstS : @dstS = x_dstS at *
  generalize y_badI : @badI = x_badI at *
  generalize y_fitR : @fitR = x_fitR at *
  generalize y_validG : @validG = x_validG at *
  generalize y_sC : @sC = x_sC at *
  generalize y_iC : @iC = x_iC at *
  generalize y_nS : @nS = x_nS at *
  generalize y_nI : @nI = x_nI at *
  (repeat' first | ((first | with_reducible refine tr_cut (fun h => ?_) (fun h => ?_) | refine aw_condj (by cbv) (fun h => ?_) (fun h => ?_)) <;> (try simp (disch := omega) only [hj, std, cmpI, cmpB, satB, Bool.not_eq_true, Bool.not_eq_false, decide_eq_true_eq, decide_eq_false_iff_not, beq_iff_eq, bne_iff_ne, bne_eq_false_iff_eq, beq_eq_false_iff_ne, ne_eq, reduceCtorEq, not_true_eq_false, not_false_eq_true, pl0, if_true, cmpS_eq, cmpS_neq, Bool.not_eq_eq_eq_not, Bool.not_true, Bool.not_false, Bool.not_eq_true', add64, sub64] at h) <;> (try (exfalso; omega))) | (with_reducible refine tr_alt (fun h => ?_) ?_ <;> (try (exfalso; omega))) | (with_reducible first | refine tr_ob ?_ ?_ | refine tr_done ?_) | (refine aw_tr hj tok (bookG7 x_rlsOf x_dupR x_strsOf x_idxS x_nameI x_termI) (by cbv) ?_) | (refine aw_seq fun K hK => ?_) | (refine aw_tr1 hj tok (bookG7 x_rlsOf x_dupR x_strsOf x_idxS x_nameI x_termI) (by cbv) ?_) | (refine aw_skip ?_) | (refine aw_block ?_) | (refine aw_exit ?_) | (refine aw_ret ⟨.inr rfl, ret_okj hj (by cbv) ?_ ?_⟩) | (refine aw_ret ?_) | (with_reducible first | refine th_n ?_ | refine th_r ?_ | refine th_x ?_ | refine blk_n ?_ | refine blk_r ?_ | refine blk_x ?_ | refine blk_y rfl ?_) | (refine ⟨.inr rfl, ret_okj hj (by cbv) ?_ ?_⟩) | (refine ⟨.inl rfl, ret_okj hj (by cbv) ?_ ?_⟩) | (with_reducible first | refine ⟨(_, _, _, _), by cbv, ?_, ?_⟩ | refine ⟨(_, _), by cbv, ?_, ?_⟩ | refine ⟨_, by cbv, ?_, ?_⟩) | (with_reducible apply_assumption -symm -exfalso only [*]))
  all_goals ((try subst y_rlsOf); (try subst y_dupR); (try subst y_strsOf); (try subst y_idxS); (try subst y_nameI); (try subst y_termI); (try subst y_rC); (try subst y_nR); (try subst y_dstS); (try subst y_badI); (try subst y_fitR); (try subst y_validG); (try subst y_sC); (try subst y_iC); (try subst y_nS); (try subst y_nI))
  all_goals (try have q := ‹gi (cellAt (rC rs) _) = i›)
  all_goals (try have q := ‹¬ gi (cellAt (rC rs) _) = i›)
  all_goals (try rw [gi_rC] at q)
  all_goals (try have r := ‹b = true›)
  all_goals (try have r := ‹b = false›)
  all_goals (try have he := (hasL_end (rs := rs) (i := i) (k := k) (by omega)))
  all_goals (try (repeat' first | with_reducible exact obl0 | (with_reducible refine obl1 ?_ ?_)))
  all_goals (try first | with_reducible exact True.intro | ((first | refine ob_le hj ?_ | refine ob_lei hj ?_ | refine ob_inb hj ?_ | refine ob_pos hj ?_ | refine ob_ne0 hj ?_ | refine ob_eqb hj ?_); (first | rfl | first | omega | (simp only [hj, std]; split <;> omega) | (simp (disch := omega) only [hj, std, cmpI, cmpB, satB, add64, sub64, ite0, pl0, pl2, pl3, sb0, if_true, if_false, eq_self, rC_len] <;> omega) | (simp (disch := omega) [hj, std, cmpI, cmpB, satB, add64, sub64, ite0, pl0, pl2, pl3, sb0, if_true, if_false, eq_self, rC_len] <;> omega))) | ((refine ob_ok hj ?_; simp only [hj, std, ite0]; first | exact ok_rC1 (by omega) | exact ok_rC0 (by omega))) | ((refine r1b ?_; refine valid_no5 i1 hil fun r hr e => ?_; have h8 := he.2 ⟨r, hr, e⟩; rw [← k3] at h8; simp_all)) | ((simp (disch := omega) only [hj, std, add64]; first | omega | exact ⟨by omega, by omega, by rw [hasL_step k1 (by omega), q]; simp⟩ | exact ⟨by omega, by omega, by rw [hasL_step k1 (by omega), ← k3, decide_eq_false q]; simp⟩ | (refine ⟨by omega, by omega, fun n hn => ?_, fun n hn => ?_, fun n hn => ?_⟩; by_cases e : (n : Int) < i; exact i3 n e; obtain rfl : n = i.toNat := (by omega); exact q1; by_cases e : (n : Int) < i; exact i4 n e; obtain rfl : n = i.toNat := (by omega); rw [q2]; omega; by_cases e : (n : Int) < i; exact i5 n e; obtain rfl : n = i.toNat := (by omega); have h8 := he.1 (by rw [← k3]; exact r); rw [show ((i.toNat : Nat) : Int) = i by omega]; exact h8))))
 have hA : dstS nameI ns = true := dst_all (fun n hn => i3 n (by omega)) (fun n hn => i4 n (by omega))
 have hA5 : ∀ n : Nat, n < nS ns → ∃ r ∈ rs, r.1 = (n : Int) := fun n hn => i5 n (by omega)
 clear i3 i4 i5
 refine aw_lpj hj [(1, .keep), (6, .keep)] [1] (fun (m : Int) => stOf 160 [(1, .one (.ptr 1 0)), (6, .one (.c (vI m)))] [(1, .box [.st ((C.sl (nS ns) (sC ns))), .st ((C.sl (nS ts) (sC ts))), .st ((C.sl (nR rs) (rC rs)))])]) (fun (m : Int) => nS ts - m.toNat) (fun (m : Int) => 0 ≤ m ∧ m ≤ nS ts ∧ (∀ n : Nat, (n : Int) < m → termI (sAt ts n) = true) ∧ (∀ n : Nat, (n : Int) < m → idxS ts (sAt ts n) = (n : Int))) (0) (by generalize @rlsOf = x_rlsOf; generalize @dupR = x_dupR; generalize @strsOf = x_strsOf; generalize @idxS = x_idxS; generalize @nameI = x_nameI; generalize @termI = x_termI; generalize @rC = x_rC; generalize @nR = x_nR; generalize @dstS = x_dstS; generalize @badI = x_badI; generalize @fitR = x_fitR; generalize @validG = x_validG; generalize @sC = x_sC; generalize @iC = x_iC; generalize @nS = x_nS; generalize @nI = x_nI; cbv) ?_ (fun m hI => ?_)
 ·exact ⟨by omega, by omega, fun n h => by omega, fun n h => by omega⟩
 obtain ⟨m1, m2, m3, m4⟩ := hI
 have hmm : m < nS ts → (gs (cellAt (sC ts) m.toNat)).size ≤ 1000000 := fun h => by rw [gs_sC]; exact hS.u _ (sAt_mem ts m m1 h)
 generalize y_rlsOf : @rlsOf = x_rlsOf at *
 generalize y_dupR : @dupR = x_dupR at *
 generalize y_strsOf : @strsOf = x_strsOf at *
 generalize y_idxS : @idxS = x_idxS at *
 generalize y_nameI : @nameI = x_nameI at *
 generalize y_termI : @termI = x_termI at *
 generalize y_rC : @rC = x_rC at *
 generalize y_nR : @nR = x_nR at *
 generalize y_dstS : @dstS = x_dstS at *
 generalize y_badI : @badI = x_badI at *
 generalize y_fitR : @fitR = x_fitR at *
 generalize y_validG : @validG = x_validG at *
 generalize y_sC : @sC = x_sC at *
 generalize y_iC : @iC = x_iC at *
 generalize y_nS : @nS = x_nS at *
 generalize y_nI : @nI = x_nI at *
 (repeat' first | ((first | with_reducible refine tr_cut (fun h => ?_) (fun h => ?_) | refine aw_condj (by cbv) (fun h => ?_) (fun h => ?_)) <;> (try simp (disch := omega) only [hj, std, cmpI, cmpB, satB, Bool.not_eq_true, Bool.not_eq_false, decide_eq_true_eq, decide_eq_false_iff_not, beq_iff_eq, bne_iff_ne, bne_eq_false_iff_eq, beq_eq_false_iff_ne, ne_eq, reduceCtorEq, not_true_eq_false, not_false_eq_true, pl0, if_true, cmpS_eq, cmpS_neq, Bool.not_eq_eq_eq_not, Bool.not_true, Bool.not_false, Bool.not_eq_true', add64, sub64] at h) <;> (try (exfalso; omega))) | (with_reducible refine tr_alt (fun h => ?_) ?_ <;> (try (exfalso; omega))) | (with_reducible first | refine tr_ob ?_ ?_ | refine tr_done ?_) | (refine aw_dr1 (id := 19) hj tok hm (bookG7 x_rlsOf x_dupR x_strsOf x_idxS x_nameI x_termI) true [(0, false), (1, false), (2, true), (3, true), (4, true), (5, true), (6, true), (7, true), (8, false), (9, false), (10, false), (11, false), (12, false), (13, false), (14, false), (16, false), (15, true), (17, true), (18, true)] (by kernel_rfl) (by cbv) ?_) | (refine aw_dr (id := 19) hj tok hm (bookG7 x_rlsOf x_dupR x_strsOf x_idxS x_nameI x_termI) true [(0, false), (1, false), (2, true), (3, true), (4, true), (5, true), (6, true), (7, true), (8, false), (9, false), (10, false), (11, false), (12, false), (13, false), (14, false), (16, false), (15, true), (17, true), (18, true)] (by kernel_rfl) (by cbv) ?_) | (refine aw_tr hj tok (bookG7 x_rlsOf x_dupR x_strsOf x_idxS x_nameI x_termI) (by cbv) ?_) | (refine aw_seq fun K hK => ?_) | (refine aw_tr1 hj tok (bookG7 x_rlsOf x_dupR x_strsOf x_idxS x_nameI x_termI) (by cbv) ?_) | (refine aw_skip ?_) | (refine aw_block ?_) | (refine aw_exit ?_) | (refine aw_ret ⟨.inr rfl, ret_okj hj (by cbv) ?_ ?_⟩) | (refine aw_ret ?_) | (with_reducible first | refine th_n ?_ | refine th_r ?_ | refine th_x ?_ | refine blk_n ?_ | refine blk_r ?_ | refine blk_x ?_ | refine blk_y rfl ?_) | (refine ⟨.inr rfl, ret_okj hj (by cbv) ?_ ?_⟩) | (refine ⟨.inl rfl, ret_okj hj (by cbv) ?_ ?_⟩) | (with_reducible first | refine ⟨(_, _, _, _), by cbv, ?_, ?_⟩ | refine ⟨(_, _), by cbv, ?_, ?_⟩ | refine ⟨_, by cbv, ?_, ?_⟩) | (with_reducible apply_assumption -symm -exfalso only [*]))
 all_goals ((try subst y_rlsOf); (try subst y_dupR); (try subst y_strsOf); (try subst y_idxS); (try subst y_nameI); (try subst y_termI); (try subst y_rC); (try subst y_nR); (try subst y_dstS); (try subst y_badI); (try subst y_fitR); (try subst y_validG); (try subst y_sC); (try subst y_iC); (try subst y_nS); (try subst y_nI))
 all_goals (try have q1 := ‹termI _ = true›)
 all_goals (try have q1 := ‹termI _ = false›)
 all_goals (try rw [gs_sC] at q1)
 all_goals (try have q2 := ‹idxS _ _ = m›)
 all_goals (try have q2 := ‹¬ idxS _ _ = m›)
 all_goals (try rw [strsOf_sC, gs_sC] at q2)
 all_goals (try (repeat' first | with_reducible exact obl0 | (with_reducible refine obl1 ?_ ?_)))
 all_goals (try first | with_reducible exact True.intro | ((first | refine ob_pc hj ?_ | refine ob_pcn hj ?_); (try rw [hj]); first | exact c_Term12 (hmm (by omega)) | exact c_Find (by omega)) | ((first | refine ob_le hj ?_ | refine ob_lei hj ?_ | refine ob_inb hj ?_ | refine ob_pos hj ?_ | refine ob_ne0 hj ?_ | refine ob_eqb hj ?_); (first | rfl | first | omega | (simp only [hj, std]; split <;> omega) | (simp (disch := omega) only [hj, std, cmpI, cmpB, satB, add64, sub64, ite0, pl0, pl2, pl3, sb0, if_true, if_false, eq_self, sC_len] <;> omega) | (simp (disch := omega) [hj, std, cmpI, cmpB, satB, add64, sub64, ite0, pl0, pl2, pl3, sb0, if_true, if_false, eq_self, sC_len] <;> omega))) | ((refine ob_ok hj ?_; simp only [hj, std, ite0]; exact ok_sC (by omega))) | ((refine r1b ?_; exact valid_no3 (dst_no1 m m1 (by omega) q1))) | ((refine r1b ?_; exact valid_no3 (dst_no3 m1 (by omega) q2))) | ((simp (disch := omega) only [hj, std, add64]; first | omega | (refine ⟨by omega, by omega, fun n hn => ?_, fun n hn => ?_⟩; by_cases e : (n : Int) < m; exact m3 n e; obtain rfl : n = m.toNat := (by omega); exact q1; by_cases e : (n : Int) < m; exact m4 n e; obtain rfl : n = m.toNat := (by omega); rw [q2]; omega))))
 have hB : dstS termI ts = true := dst_all (fun n hn => m3 n (by omega)) (fun n hn => m4 n (by omega))
 clear m3 m4
 refine aw_lpj hj [(1, .keep), (7, .keep)] [1] (fun (p : Int) => stOf 160 [(1, .one (.ptr 1 0)), (7, .one (.c (vI p)))] [(1, .box [.st ((C.sl (nS ns) (sC ns))), .st ((C.sl (nS ts) (sC ts))), .st ((C.sl (nR rs) (rC rs)))])]) (fun (p : Int) => nR rs - p.toNat) (fun (p : Int) => 0 ≤ p ∧ p ≤ nR rs ∧ ∀ n : Nat, (n : Int) < p → fitR (nS ns) (nS ts) (rAt rs n) = true) (0) (by generalize @rlsOf = x_rlsOf; generalize @dupR = x_dupR; generalize @strsOf = x_strsOf; generalize @idxS = x_idxS; generalize @nameI = x_nameI; generalize @termI = x_termI; generalize @rC = x_rC; generalize @nR = x_nR; generalize @dstS = x_dstS; generalize @badI = x_badI; generalize @fitR = x_fitR; generalize @validG = x_validG; generalize @sC = x_sC; generalize @iC = x_iC; generalize @nS = x_nS; generalize @nI = x_nI; cbv) ?_ (fun p hI => ?_)
 ·exact ⟨by omega, by omega, fun n h => by omega⟩
 obtain ⟨p1, p2, p3⟩ := hI
 have e1 : gi (cellAt (rC rs) (p.toNat * 2)) = (rAt rs p.toNat).1 := gi_rC _ _
 have e2 : gn (cellAt (rC rs) (p.toNat * 2 + 1)) = nI (rAt rs p.toNat).2 := gn_rC _ _
 have e3 : gc (cellAt (rC rs) (p.toNat * 2 + 1)) = iC (rAt rs p.toNat).2 := gc_rC _ _
 generalize y_rlsOf : @rlsOf = x_rlsOf at *
 generalize y_dupR : @dupR = x_dupR at *
 generalize y_strsOf : @strsOf = x_strsOf at *
 generalize y_idxS : @idxS = x_idxS at *
 generalize y_nameI : @nameI = x_nameI at *
 generalize y_termI : @termI = x_termI at *
 generalize y_rC : @rC = x_rC at *
 generalize y_nR : @nR = x_nR at *
 generalize y_dstS : @dstS = x_dstS at *
 generalize y_badI : @badI = x_badI at *
 generalize y_fitR : @fitR = x_fitR at *
 generalize y_validG : @validG = x_validG at *
 generalize y_sC : @sC = x_sC at *
 generalize y_iC : @iC = x_iC at *
 generalize y_nS : @nS = x_nS at *
 generalize y_nI : @nI = x_nI at *
 (repeat' first | ((first | with_reducible refine tr_cut (fun h => ?_) (fun h => ?_) | refine aw_condj (by cbv) (fun h => ?_) (fun h => ?_)) <;> (try simp (disch := omega) only [hj, std, cmpI, cmpB, satB, Bool.not_eq_true, Bool.not_eq_false, decide_eq_true_eq, decide_eq_false_iff_not, beq_iff_eq, bne_iff_ne, bne_eq_false_iff_eq, beq_eq_false_iff_ne, ne_eq, reduceCtorEq, not_true_eq_false, not_false_eq_true, pl0, if_true, cmpS_eq, cmpS_neq, Bool.not_eq_eq_eq_not, Bool.not_true, Bool.not_false, Bool.not_eq_true', add64, sub64] at h) <;> (try (exfalso; omega))) | (with_reducible refine tr_alt (fun h => ?_) ?_ <;> (try (exfalso; omega))) | (with_reducible first | refine tr_ob ?_ ?_ | refine tr_done ?_) | (refine aw_tr hj tok (bookG7 x_rlsOf x_dupR x_strsOf x_idxS x_nameI x_termI) (by cbv) ?_) | (refine aw_seq fun K hK => ?_) | (refine aw_tr1 hj tok (bookG7 x_rlsOf x_dupR x_strsOf x_idxS x_nameI x_termI) (by cbv) ?_) | (refine aw_skip ?_) | (refine aw_block ?_) | (refine aw_exit ?_) | (refine aw_ret ⟨.inr rfl, ret_okj hj (by cbv) ?_ ?_⟩) | (refine aw_ret ?_) | (with_reducible first | refine th_n ?_ | refine th_r ?_ | refine th_x ?_ | refine blk_n ?_ | refine blk_r ?_ | refine blk_x ?_ | refine blk_y rfl ?_) | (refine ⟨.inr rfl, ret_okj hj (by cbv) ?_ ?_⟩) | (refine ⟨.inl rfl, ret_okj hj (by cbv) ?_ ?_⟩) | (with_reducible first | refine ⟨(_, _, _, _), by cbv, ?_, ?_⟩ | refine ⟨(_, _), by cbv, ?_, ?_⟩ | refine ⟨_, by cbv, ?_, ?_⟩) | (with_reducible apply_assumption -symm -exfalso only [*]))
 all_goals ((try subst y_rlsOf); (try subst y_dupR); (try subst y_strsOf); (try subst y_idxS); (try subst y_nameI); (try subst y_termI); (try subst y_rC); (try subst y_nR); (try subst y_dstS); (try subst y_badI); (try subst y_fitR); (try subst y_validG); (try subst y_sC); (try subst y_iC); (try subst y_nS); (try subst y_nI))
 all_goals (try (repeat' first | with_reducible exact obl0 | (with_reducible refine obl1 ?_ ?_)))
 all_goals (try first | with_reducible exact True.intro | ((first | refine ob_pc hj ?_ | refine ob_pcn hj ?_); (try rw [hj]); first | exact c_tw14 hc hS.i) | ((first | refine ob_le hj ?_ | refine ob_lei hj ?_ | refine ob_inb hj ?_ | refine ob_pos hj ?_ | refine ob_ne0 hj ?_ | refine ob_eqb hj ?_); (first | rfl | first | omega | (simp only [hj, std]; split <;> omega) | (simp (disch := omega) only [hj, std, cmpI, cmpB, satB, add64, sub64, ite0, pl0, pl2, pl3, sb0, if_true, if_false, eq_self, rC_len] <;> omega) | (simp (disch := omega) [hj, std, cmpI, cmpB, satB, add64, sub64, ite0, pl0, pl2, pl3, sb0, if_true, if_false, eq_self, rC_len] <;> omega))) | ((refine ob_ok hj ?_; simp only [hj, std, ite0]; first | exact ok_rC1 (by omega) | exact ok_rC0 (by omega))) | ((refine r1b ?_; exact valid_no4 p1 (by omega) (fit_no1 (x := (rAt rs p.toNat).1) (l := (rAt rs p.toNat).2) (by omega)))) | ((refine r1b ?_; rw [valid_at (by omega) hA hB (fun n hn => p3 n (by omega)) hA5, rlsOf_rC, hj]; rfl)))
 have hpl : p < nR rs := by assumption
 have hR := hS.i _ (rAt_mem rs p p1 hpl)
 have hx : 0 ≤ (rAt rs p.toNat).1 ∧ (rAt rs p.toNat).1 < nS ns ∧ nI (rAt rs p.toNat).2 ≤ 64 := by omega
 generalize hRl : rAt rs p.toNat = R at *
 refine aw_lpj hj [(1, .keep), (7, .keep), (8, .keep), (9, .keep)] [1, 8] (fun (⟨k, x, n, cs⟩ : Int × Int × Nat × (List C)) => stOf 160 [(1, .one (.ptr 1 0)), (7, .one (.c (vI p))), (8, .one (.ptr 8 0)), (9, .one (.c (vI k)))] [(1, .box [.st ((C.sl (nS ns) (sC ns))), .st ((C.sl (nS ts) (sC ts))), .st ((C.sl (nR rs) (rC rs)))]), (8, .box [.st (.val (.int .i64 x)), .st (.sl n cs)])]) (fun (⟨k, x, n, cs⟩ : Int × Int × Nat × (List C)) => nI R.2 - k.toNat) (fun (⟨k, x, n, cs⟩ : Int × Int × Nat × (List C)) => 0 ≤ k ∧ k ≤ nI R.2 ∧ n = nI R.2 ∧ cs = iC R.2 ∧ ∀ a : Nat, (a : Int) < k → badI (nS ns) (nS ts) (iAt R.2 a) = false) ((0, j.gi (j.cell (rC rs) (j.mul (j.toNat p) 2)), j.gn (j.cell (rC rs) (j.add (j.mul (j.toNat p) 2) 1)), j.gc (j.cell (rC rs) (j.add (j.mul (j.toNat p) 2) 1)))) (by generalize @rlsOf = x_rlsOf; generalize @dupR = x_dupR; generalize @strsOf = x_strsOf; generalize @idxS = x_idxS; generalize @nameI = x_nameI; generalize @termI = x_termI; generalize @rC = x_rC; generalize @nR = x_nR; generalize @dstS = x_dstS; generalize @badI = x_badI; generalize @fitR = x_fitR; generalize @validG = x_validG; generalize @sC = x_sC; generalize @iC = x_iC; generalize @nS = x_nS; generalize @nI = x_nI; cbv) ?_ (fun ⟨k, x, n, cs⟩ hI => ?_)
 ·refine ⟨by omega, by omega, ?_, ?_, fun n h => by omega⟩
  ·rw [hj]; exact e2
  ·rw [hj]; exact e3
 obtain ⟨k1, k2, rfl, rfl, k3⟩ := hI
 have e4 : gi (cellAt (iC R.2) k.toNat) = iAt R.2 k.toNat := gi_iC _ _
 have nR2 := nI_eq R.2
 generalize y_rlsOf : @rlsOf = x_rlsOf at *
 generalize y_dupR : @dupR = x_dupR at *
 generalize y_strsOf : @strsOf = x_strsOf at *
 generalize y_idxS : @idxS = x_idxS at *
 generalize y_nameI : @nameI = x_nameI at *
 generalize y_termI : @termI = x_termI at *
 generalize y_rC : @rC = x_rC at *
 generalize y_nR : @nR = x_nR at *
 generalize y_dstS : @dstS = x_dstS at *
 generalize y_badI : @badI = x_badI at *
 generalize y_fitR : @fitR = x_fitR at *
 generalize y_validG : @validG = x_validG at *
 generalize y_sC : @sC = x_sC at *
 generalize y_iC : @iC = x_iC at *
 generalize y_nS : @nS = x_nS at *
 generalize y_nI : @nI = x_nI at *
 (repeat' first | ((first | with_reducible refine tr_cut (fun h => ?_) (fun h => ?_) | refine aw_condj (by cbv) (fun h => ?_) (fun h => ?_)) <;> (try simp (disch := omega) only [hj, std, cmpI, cmpB, satB, Bool.not_eq_true, Bool.not_eq_false, decide_eq_true_eq, decide_eq_false_iff_not, beq_iff_eq, bne_iff_ne, bne_eq_false_iff_eq, beq_eq_false_iff_ne, ne_eq, reduceCtorEq, not_true_eq_false, not_false_eq_true, pl0, if_true, cmpS_eq, cmpS_neq, Bool.not_eq_eq_eq_not, Bool.not_true, Bool.not_false, Bool.not_eq_true', add64, sub64] at h) <;> (try (exfalso; omega))) | (with_reducible refine tr_alt (fun h => ?_) ?_ <;> (try (exfalso; omega))) | (with_reducible first | refine tr_ob ?_ ?_ | refine tr_done ?_) | (refine aw_dr1 (id := 30) hj tok hm (bookG7 x_rlsOf x_dupR x_strsOf x_idxS x_nameI x_termI) true [(0, false), (1, false), (2, false), (3, false), (4, false), (5, true), (6, true), (7, true), (8, true), (9, true), (10, false), (11, false), (12, false), (13, false), (14, false), (15, true), (16, true), (17, true), (18, true), (19, true), (20, true)] (by kernel_rfl) (by cbv) ?_) | (refine aw_dr (id := 30) hj tok hm (bookG7 x_rlsOf x_dupR x_strsOf x_idxS x_nameI x_termI) true [(0, false), (1, false), (2, false), (3, false), (4, false), (5, true), (6, true), (7, true), (8, true), (9, true), (10, false), (11, false), (12, false), (13, false), (14, false), (15, true), (16, true), (17, true), (18, true), (19, true), (20, true)] (by kernel_rfl) (by cbv) ?_) | (refine aw_tr hj tok (bookG7 x_rlsOf x_dupR x_strsOf x_idxS x_nameI x_termI) (by cbv) ?_) | (refine aw_seq fun K hK => ?_) | (refine aw_tr1 hj tok (bookG7 x_rlsOf x_dupR x_strsOf x_idxS x_nameI x_termI) (by cbv) ?_) | (refine aw_skip ?_) | (refine aw_block ?_) | (refine aw_exit ?_) | (refine aw_ret ⟨.inr rfl, ret_okj hj (by cbv) ?_ ?_⟩) | (refine aw_ret ?_) | (with_reducible first | refine th_n ?_ | refine th_r ?_ | refine th_x ?_ | refine blk_n ?_ | refine blk_r ?_ | refine blk_x ?_ | refine blk_y rfl ?_) | (refine ⟨.inr rfl, ret_okj hj (by cbv) ?_ ?_⟩) | (refine ⟨.inl rfl, ret_okj hj (by cbv) ?_ ?_⟩) | (with_reducible first | refine ⟨(_, _, _, _), by cbv, ?_, ?_⟩ | refine ⟨(_, _), by cbv, ?_, ?_⟩ | refine ⟨_, by cbv, ?_, ?_⟩) | (with_reducible apply_assumption -symm -exfalso only [*]))
 all_goals ((try subst y_rlsOf); (try subst y_dupR); (try subst y_strsOf); (try subst y_idxS); (try subst y_nameI); (try subst y_termI); (try subst y_rC); (try subst y_nR); (try subst y_dstS); (try subst y_badI); (try subst y_fitR); (try subst y_validG); (try subst y_sC); (try subst y_iC); (try subst y_nS); (try subst y_nI))
 all_goals (try (repeat' first | with_reducible exact obl0 | with_reducible refine obl1 ?_ ?_))
 all_goals (try first | with_reducible exact True.intro | ((first | refine ob_le hj ?_ | refine ob_lei hj ?_ | refine ob_inb hj ?_ | refine ob_pos hj ?_ | refine ob_ne0 hj ?_ | refine ob_eqb hj ?_); (first | rfl | first | omega | (simp only [hj, std]; split <;> omega) | (simp (disch := omega) only [hj, std, cmpI, cmpB, satB, add64, sub64, ite0, pl0, pl2, pl3, sb0, if_true, if_false, eq_self, iC_len] <;> omega) | (simp (disch := omega) [hj, std, cmpI, cmpB, satB, add64, sub64, ite0, pl0, pl2, pl3, sb0, if_true, if_false, eq_self, iC_len] <;> omega))) | ((refine ob_ok hj ?_; simp only [hj, std, ite0]; exact ok_iC (by omega))) | ((refine r1b ?_; refine valid_no4 p1 hpl ?_; rw [hRl]; refine fit_no2 k1 (by omega) ?_; unfold badI; rw [decide_eq_true_eq]; omega)) | ((simp (disch := omega) only [hj, std, add64]; first | omega | (refine ⟨by omega, by omega, trivial, trivial, fun a ha => ?_⟩; by_cases e : (a : Int) < k; exact k3 a e; obtain rfl : a = k.toNat := (by omega); unfold badI; rw [decide_eq_false_iff_not]; omega) | (refine ⟨by omega, by omega, fun a ha => ?_⟩; by_cases e : (a : Int) < p; exact p3 a e; obtain rfl : a = p.toNat := (by omega); rw [hRl]; exact fit_all (x := R.1) (l := R.2) hx fun b hb => k3 b (by omega)))))
end Go.Proofs.Ytgimfjmigoibgaa.A
/- Grammars: two that are the same, by the program and by the reference. -/
set_option linter.unusedSimpArgs false
set_option linter.unusedVariables false
set_option maxRecDepth 100000
set_option maxHeartbeats 4000000
namespace Go.Proofs.Ytgimfjmigoibgaa.A
open Go
theorem sameS_iff {l m : List ByteArray} : sameS l m = true ↔ l = m := by unfold sameS; rw [decide_eq_true_eq]
def sameL2 (l m : List Rl) : Bool := decide (l = m)
theorem ext_rAt {l m : List Rl} (h : nR l = nR m) (k : ∀ n : Nat, n < nR l → rAt l n = rAt m n) : l = m := by
 rw [nR_eq, nR_eq] at h
 refine List.ext_getElem h fun n h1 h2 => ?_
 have := k n (by rw [nR_eq]; exact h1)
 rwa [rAt_get h1, rAt_get h2] at this
theorem sameL2_iff {l m : List Rl} : sameL2 l m = true ↔ l = m := by unfold sameL2; rw [decide_eq_true_eq]
end Go.Proofs.Ytgimfjmigoibgaa.A
