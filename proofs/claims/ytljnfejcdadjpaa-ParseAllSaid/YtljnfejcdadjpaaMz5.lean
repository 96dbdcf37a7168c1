/- What ParseAll needs, part 5. -/
import Derived.Test.YtljnfejcdadjpaaMz4
/- Rules of the program and of the reference, side by side. -/
set_option linter.unusedSimpArgs false
set_option linter.unusedVariables false
set_option maxRecDepth 100000
set_option maxHeartbeats 4000000
namespace Go.Proofs.Ytljnfejcdadjpaa.A
open Go
abbrev lAt (L : List Ln) (i : Nat) : Ln := L.getD i (ByteArray.empty, [])
abbrev aAt (A : List (List It)) (i : Nat) : List It := A.getD i []
abbrev tAt (a : List It) (i : Nat) : It := a.getD i (false, ByteArray.empty)
theorem pair_at {α : Type} (f g : α → C) : ∀ (l : List α) (i : Nat) (h : i < l.length), cellAt (l.flatMap fun x => [f x, g x]) (i * 2) = f l[i] ∧ cellAt (l.flatMap fun x => [f x, g x]) (i * 2 + 1) = g l[i] := by
  intro l
  induction l with
  | nil => intro i h; simp at h
  | cons x l ih =>
    intro i h
    cases i with
    | zero => exact ⟨rfl, rfl⟩
    | succ i =>
      obtain ⟨h1, h2⟩ := ih i (by simpa using h)
      have e1 : (i + 1) * 2 = i * 2 + 1 + 1 := by omega
      rw [e1]
      exact ⟨h1, h2⟩
theorem at_lnC {L : List Ln} {i : Nat} (h : i < L.length) : cellAt (lnC L) (i * 2) = vS (lAt L i).1 ∧ cellAt (lnC L) (i * 2 + 1) = nslC (lAt L i).2.length (alC (lAt L i).2) := by
  have := pair_at (fun x : Ln => vS x.1) (fun x => nslC x.2.length (alC x.2)) L i h
  unfold lnC; simpa only [lAt, List.getD_eq_getElem?_getD, List.getElem?_eq_getElem h, Option.getD_some] using this
theorem at_ln2C {L : List Ln} {i : Nat} (h : i < L.length) : cellAt (ln2C L) (i * 2) = vS (lAt L i).1 ∧ cellAt (ln2C L) (i * 2 + 1) = .sl (lAt L i).2.length (al2C (lAt L i).2) := by
  have := pair_at (fun x : Ln => vS x.1) (fun x => C.sl x.2.length (al2C x.2)) L i h
  unfold ln2C; simpa only [lAt, List.getD_eq_getElem?_getD, List.getElem?_eq_getElem h, Option.getD_some] using this
theorem at_itC {a : List It} {i : Nat} (h : i < a.length) : cellAt (itC a) (i * 2) = vB (tAt a i).1 ∧ cellAt (itC a) (i * 2 + 1) = vS (tAt a i).2 := by
  have := pair_at (fun x : It => vB x.1) (fun x => vS x.2) a i h
  unfold itC; simpa only [tAt, List.getD_eq_getElem?_getD, List.getElem?_eq_getElem h, Option.getD_some] using this
theorem at_alC {A : List (List It)} {i : Nat} (h : i < A.length) : cellAt (alC A) i = nslC (aAt A i).length (itC (aAt A i)) := by
  unfold alC; rw [map_at, List.getElem?_eq_getElem h, aAt, List.getD_eq_getElem?_getD, List.getElem?_eq_getElem h]; rfl
theorem at_al2C {A : List (List It)} {i : Nat} (h : i < A.length) : cellAt (al2C A) i = .sl (aAt A i).length (itC (aAt A i)) := by
  unfold al2C; rw [map_at, List.getElem?_eq_getElem h, aAt, List.getD_eq_getElem?_getD, List.getElem?_eq_getElem h]; rfl
theorem lAt_mem {L : List Ln} {i : Nat} (h : i < L.length) : lAt L i ∈ L := by
  rw [lAt, List.getD_eq_getElem?_getD, List.getElem?_eq_getElem h]; exact List.getElem_mem h
theorem aAt_mem {A : List (List It)} {i : Nat} (h : i < A.length) : aAt A i ∈ A := by
  rw [aAt, List.getD_eq_getElem?_getD, List.getElem?_eq_getElem h]; exact List.getElem_mem h
theorem rGo_sz (z : Int) : ∀ (ts : List Tk) (st : RS) (n : Nat), rOk st → rSz st.1 n → rSz (rGo z ts st).1 (n + ts.length) := by
  intro ts
  induction ts with
  | nil =>
    intro st n _ hs
    unfold rGo
    split
    · exact ⟨by simp, fun x hx => by cases hx⟩
    · exact hs
  | cons t ts ih =>
    intro st n hok hs
    unfold rGo
    split
    · obtain ⟨L, w, o⟩ := st
      obtain ⟨k1, k2⟩ := rstep_ok (t := t) hok hs
      have := ih _ _ k1 k2
      rw [List.length_cons, show n + (ts.length + 1) = n + 1 + ts.length by omega]; exact this
    · exact ⟨by simp, fun x hx => by cases hx⟩
theorem pAll_sz (s : ByteArray) : rSz (pAll s).1 s.size := by
  unfold pAll
  split
  · exact ⟨by simp, fun x hx => by cases hx⟩
  · have := rGo_sz s.size (lexGo s 0).1 ([], 0, false) 0 (.inl rfl) ⟨by simp, fun x hx => by cases hx⟩
    rw [Nat.zero_add] at this
    exact rSz_mono this (lxN_le s)
theorem pc_alike (L : List Ln) (hs : rSz L 1000000) : PC Try.prog T 19 [.v false [.sl L.length (lnC L)], .v false [.sl L.length (ln2C L)]] (ret1 (.st (vB true))) [] := by
  have hl1 := lnC_len L
  have hl2 := ln2C_len L
  have hn := hs.1
  generalize hm1 : L.length = n at *
  have a1 := fun (i : Nat) (h : i < n) => at_lnC (L := L) (i := i) (by omega)
  have a2 := fun (i : Nat) (h : i < n) => at_ln2C (L := L) (i := i) (by omega)
  have a3 := fun (i : Nat) (h : i < n) => hs.2 _ (lAt_mem (L := L) (i := i) (by omega))
  generalize hc1 : lnC L = cs at *
  generalize hc2 : ln2C L = ds at *
  refine pc_of tok Try.func19 rfl (by rfl) ?_
  obtain ⟨j, hj⟩ : ∃ j : J, j = std Try.prog T := ⟨_, rfl⟩
  have hm : Try.prog.follows .mixedOrders = true := by kernel_rfl
  generalize y_al2C : @al2C = x_al2C at *
  generalize y_ln2C : @ln2C = x_ln2C at *
  generalize y_itC : @itC = x_itC at *
  generalize y_alC : @alC = x_alC at *
  generalize y_lnC : @lnC = x_lnC at *
  (repeat' first | ((first | with_reducible refine tr_cut (fun h => ?_) (fun h => ?_) | refine aw_condj (by cbv) (fun h => ?_) (fun h => ?_)) <;> (try simp (disch := omega) only [hj, std, cmpI, cmpB, satB, Bool.not_eq_true, Bool.not_eq_false, decide_eq_true_eq, decide_eq_false_iff_not, beq_iff_eq, bne_iff_ne, bne_eq_false_iff_eq, beq_eq_false_iff_ne, ne_eq, reduceCtorEq, not_true_eq_false, not_false_eq_true, pl0, if_true, cmpS_eq, cmpS_neq, Bool.not_eq_eq_eq_not, Bool.not_true, Bool.not_false, Bool.not_eq_true', add64, sub64] at h) <;> (try (exfalso; omega))) | (with_reducible refine tr_alt (fun h => ?_) ?_ <;> (try (exfalso; omega))) | (with_reducible refine tr_ob ?_ ?_) | (with_reducible refine tr_done ?_) | (refine aw_tr hj tok book0 (by cbv) ?_) | (refine aw_seq fun K hK => ?_) | (refine aw_tr1 hj tok book0 (by cbv) ?_) | (refine aw_skip ?_) | (refine aw_block ?_) | (refine aw_exit ?_) | (refine aw_ret ⟨.inr rfl, ret_okj hj (by cbv) ?_ ?_⟩) | (refine aw_ret ?_) | (with_reducible refine th_n ?_) | (with_reducible refine th_r ?_) | (with_reducible refine th_x ?_) | (with_reducible refine blk_n ?_) | (with_reducible refine blk_r ?_) | (with_reducible refine blk_x ?_) | (with_reducible refine blk_y rfl ?_) | (refine ⟨.inr rfl, ret_okj hj (by cbv) ?_ ?_⟩) | (refine ⟨.inl rfl, ret_okj hj (by cbv) ?_ ?_⟩) | ((with_reducible refine ⟨(_, _, _, _, _, _, _), by cbv, ?_, ?_⟩)) | ((with_reducible refine ⟨(_, _, _, _, _, _), by cbv, ?_, ?_⟩)) | ((with_reducible refine ⟨(_, _, _, _, _), by cbv, ?_, ?_⟩)) | ((with_reducible refine ⟨(_, _, _, _), by cbv, ?_, ?_⟩)) | ((with_reducible refine ⟨(_, _, _), by cbv, ?_, ?_⟩)) | ((with_reducible refine ⟨(_, _), by cbv, ?_, ?_⟩)) | ((with_reducible refine ⟨_, by cbv, ?_, ?_⟩)) | (with_reducible apply_assumption -symm -exfalso only [*]))
  all_goals ((try subst y_al2C); (try subst y_ln2C); (try subst y_itC); (try subst y_alC); (try subst y_lnC))
  all_goals (try (repeat' first | with_reducible exact obl0 | with_reducible refine obl1 ?_ ?_))
  all_goals (try first | with_reducible exact True.intro | ((first | refine ob_le hj ?_ | refine ob_lei hj ?_ | refine ob_inb hj ?_ | refine ob_pos hj ?_ | refine ob_ne0 hj ?_ | refine ob_eqb hj ?_); (first | rfl | first | omega | (simp only [hj, std]; split <;> omega) | (simp (disch := omega) only [hj, std, cmpI, cmpB, satB, add64, sub64, ite0, pl0, pl2, pl3, sb0, if_true, if_false, eq_self] <;> omega) | (simp (disch := omega) [hj, std, cmpI, cmpB, satB, add64, sub64, ite0, pl0, pl2, pl3, sb0, if_true, if_false, eq_self] <;> omega))))
  refine aw_lpj hj [(0, .keep), (1, .keep), (5, .keep)] [] (fun (i : Int) => stOf 108 [(0, .one (.c (.sl n cs))), (1, .one (.c (.sl n ds))), (5, .one (.c (vI i)))] []) (fun (i : Int) => n - i.toNat) (fun (i : Int) => 0 ≤ i ∧ i ≤ n) ((_)) (by generalize @al2C = x_al2C; generalize @ln2C = x_ln2C; generalize @itC = x_itC; generalize @alC = x_alC; generalize @lnC = x_lnC; cbv) ?_ (fun i hI => ?_)
  · exact ⟨by omega, by omega⟩
  obtain ⟨i1, i2⟩ := hI
  rcases Decidable.em (i < (n : Int)) with hi | hi
  · obtain ⟨b1, b2⟩ := a1 i.toNat (by omega)
    obtain ⟨b3, b4⟩ := a2 i.toNat (by omega)
    obtain ⟨hA, hB⟩ := a3 i.toNat (by omega)
    generalize lAt L i.toNat = x at *
    obtain ⟨nm, A⟩ := x
    dsimp only at b1 b2 b3 b4 hA hB
    have e1 : gs (cellAt cs (i.toNat * 2)) = nm := by rw [b1]; rfl
    have e2 : gs (cellAt ds (i.toNat * 2)) = nm := by rw [b3]; rfl
    have e3 : gn (cellAt cs (i.toNat * 2 + 1)) = A.length := by rw [b2, gn_nsl]
    have e4 : gn (cellAt ds (i.toNat * 2 + 1)) = A.length := by rw [b4]; rfl
    have e5 : gc (cellAt cs (i.toNat * 2 + 1)) = alC A := by rw [b2, gc_al]
    have e6 : gc (cellAt ds (i.toNat * 2 + 1)) = al2C A := by rw [b4]; rfl
    generalize y_al2C : @al2C = x_al2C at *
    generalize y_ln2C : @ln2C = x_ln2C at *
    generalize y_itC : @itC = x_itC at *
    generalize y_alC : @alC = x_alC at *
    generalize y_lnC : @lnC = x_lnC at *
    (repeat' first | ((first | with_reducible refine tr_cut (fun h => ?_) (fun h => ?_) | refine aw_condj (by cbv) (fun h => ?_) (fun h => ?_)) <;> (try simp (disch := omega) only [hj, std, cmpI, cmpB, satB, Bool.not_eq_true, Bool.not_eq_false, decide_eq_true_eq, decide_eq_false_iff_not, beq_iff_eq, bne_iff_ne, bne_eq_false_iff_eq, beq_eq_false_iff_ne, ne_eq, reduceCtorEq, not_true_eq_false, not_false_eq_true, pl0, if_true, cmpS_eq, cmpS_neq, Bool.not_eq_eq_eq_not, Bool.not_true, Bool.not_false, Bool.not_eq_true', e1, e2, e3, e4, ite0, add64, sub64] at h) <;> (try (exfalso; omega))) | (with_reducible refine tr_alt (fun h => ?_) ?_ <;> (try (exfalso; omega))) | (with_reducible refine tr_ob ?_ ?_) | (with_reducible refine tr_done ?_) | (refine aw_dr1 (id := 6) hj tok hm book0 true [(0, false), (1, false), (2, false), (3, false), (4, false), (5, false), (6, true), (7, true), (8, true), (9, true), (10, true), (11, true), (12, false), (13, false), (14, false), (15, false), (16, false), (17, false), (18, false), (19, true), (20, true), (21, true), (22, true), (23, true), (24, true), (25, true)] (by kernel_rfl) (by cbv) ?_) | (refine aw_dr (id := 6) hj tok hm book0 true [(0, false), (1, false), (2, false), (3, false), (4, false), (5, false), (6, true), (7, true), (8, true), (9, true), (10, true), (11, true), (12, false), (13, false), (14, false), (15, false), (16, false), (17, false), (18, false), (19, true), (20, true), (21, true), (22, true), (23, true), (24, true), (25, true)] (by kernel_rfl) (by cbv) ?_) | (refine aw_tr hj tok book0 (by cbv) ?_) | (refine aw_seq fun K hK => ?_) | (refine aw_tr1 hj tok book0 (by cbv) ?_) | (refine aw_skip ?_) | (refine aw_block ?_) | (refine aw_exit ?_) | (refine aw_ret ⟨.inr rfl, ret_okj hj (by cbv) ?_ ?_⟩) | (refine aw_ret ?_) | (with_reducible refine th_n ?_) | (with_reducible refine th_r ?_) | (with_reducible refine th_x ?_) | (with_reducible refine blk_n ?_) | (with_reducible refine blk_r ?_) | (with_reducible refine blk_x ?_) | (with_reducible refine blk_y rfl ?_) | (refine ⟨.inr rfl, ret_okj hj (by cbv) ?_ ?_⟩) | (refine ⟨.inl rfl, ret_okj hj (by cbv) ?_ ?_⟩) | ((with_reducible refine ⟨(_, _, _, _, _, _, _), by cbv, ?_, ?_⟩)) | ((with_reducible refine ⟨(_, _, _, _, _, _), by cbv, ?_, ?_⟩)) | ((with_reducible refine ⟨(_, _, _, _, _), by cbv, ?_, ?_⟩)) | ((with_reducible refine ⟨(_, _, _, _), by cbv, ?_, ?_⟩)) | ((with_reducible refine ⟨(_, _, _), by cbv, ?_, ?_⟩)) | ((with_reducible refine ⟨(_, _), by cbv, ?_, ?_⟩)) | ((with_reducible refine ⟨_, by cbv, ?_, ?_⟩)) | (with_reducible apply_assumption -symm -exfalso only [*]))
    all_goals ((try subst y_al2C); (try subst y_ln2C); (try subst y_itC); (try subst y_alC); (try subst y_lnC))
    all_goals (try (repeat' first | with_reducible exact obl0 | with_reducible refine obl1 ?_ ?_))
    all_goals (try first | with_reducible exact True.intro | ((first | refine ob_le hj ?_ | refine ob_lei hj ?_ | refine ob_inb hj ?_ | refine ob_pos hj ?_ | refine ob_ne0 hj ?_ | refine ob_eqb hj ?_); (first | rfl | first | omega | (simp only [hj, std]; split <;> omega) | (simp (disch := omega) only [hj, std, cmpI, cmpB, satB, add64, sub64, ite0, pl0, pl2, pl3, sb0, if_true, if_false, eq_self, hl1, hl2] <;> omega) | (simp (disch := omega) [hj, std, cmpI, cmpB, satB, add64, sub64, ite0, pl0, pl2, pl3, sb0, if_true, if_false, eq_self, hl1, hl2] <;> omega))) | ((refine ob_ok hj ?_; simp only [hj, std, ite0, b1, b2, b3, b4]; first | exact ⟨_, rfl⟩ | exact .inr ⟨_, _, rfl⟩ | exact ok_nsl _ _)))
    have l1 := alC_len A
    have l2 := al2C_len A
    refine aw_lpj hj [(0, .keep), (1, .keep), (5, .keep), (6, .keep)] [] (fun (k : Int) => stOf 108 [(0, .one (.c (.sl n cs))), (1, .one (.c (.sl n ds))), (5, .one (.c (vI i))), (6, .one (.c (vI k)))] []) (fun (k : Int) => A.length - k.toNat) (fun (k : Int) => 0 ≤ k ∧ k ≤ A.length) ((_)) (by generalize @al2C = x_al2C; generalize @ln2C = x_ln2C; generalize @itC = x_itC; generalize @alC = x_alC; generalize @lnC = x_lnC; cbv) ?_ (fun k hI => ?_)
    · exact ⟨by omega, by omega⟩
    obtain ⟨k1, k2⟩ := hI
    rcases Decidable.em (k < (A.length : Int)) with hk | hk
    · have c1 := at_alC (A := A) (i := k.toNat) (by omega)
      have c2 := at_al2C (A := A) (i := k.toNat) (by omega)
      have hal := hB _ (aAt_mem (A := A) (i := k.toNat) (by omega))
      generalize aAt A k.toNat = al at *
      have e7 : gn (cellAt (alC A) k.toNat) = al.length := by rw [c1, gn_nsl]
      have e8 : gn (cellAt (al2C A) k.toNat) = al.length := by rw [c2]; rfl
      have e9 : gc (cellAt (alC A) k.toNat) = itC al := by rw [c1, gc_it]
      have e10 : gc (cellAt (al2C A) k.toNat) = itC al := by rw [c2]; rfl
      generalize y_al2C : @al2C = x_al2C at *
      generalize y_ln2C : @ln2C = x_ln2C at *
      generalize y_itC : @itC = x_itC at *
      generalize y_alC : @alC = x_alC at *
      generalize y_lnC : @lnC = x_lnC at *
      (repeat' first | ((first | with_reducible refine tr_cut (fun h => ?_) (fun h => ?_) | refine aw_condj (by cbv) (fun h => ?_) (fun h => ?_)) <;> (try simp (disch := omega) only [hj, std, cmpI, cmpB, satB, Bool.not_eq_true, Bool.not_eq_false, decide_eq_true_eq, decide_eq_false_iff_not, beq_iff_eq, bne_iff_ne, bne_eq_false_iff_eq, beq_eq_false_iff_ne, ne_eq, reduceCtorEq, not_true_eq_false, not_false_eq_true, pl0, if_true, cmpS_eq, cmpS_neq, Bool.not_eq_eq_eq_not, Bool.not_true, Bool.not_false, Bool.not_eq_true', e3, e4, e5, e6, e7, e8, ite0, add64, sub64] at h) <;> (try (exfalso; omega))) | (with_reducible refine tr_alt (fun h => ?_) ?_ <;> (try (exfalso; omega))) | (with_reducible refine tr_ob ?_ ?_) | (with_reducible refine tr_done ?_) | (refine aw_tr hj tok book0 (by cbv) ?_) | (refine aw_seq fun K hK => ?_) | (refine aw_tr1 hj tok book0 (by cbv) ?_) | (refine aw_skip ?_) | (refine aw_block ?_) | (refine aw_exit ?_) | (refine aw_ret ⟨.inr rfl, ret_okj hj (by cbv) ?_ ?_⟩) | (refine aw_ret ?_) | (with_reducible refine th_n ?_) | (with_reducible refine th_r ?_) | (with_reducible refine th_x ?_) | (with_reducible refine blk_n ?_) | (with_reducible refine blk_r ?_) | (with_reducible refine blk_x ?_) | (with_reducible refine blk_y rfl ?_) | (refine ⟨.inr rfl, ret_okj hj (by cbv) ?_ ?_⟩) | (refine ⟨.inl rfl, ret_okj hj (by cbv) ?_ ?_⟩) | ((with_reducible refine ⟨(_, _, _, _, _, _, _), by cbv, ?_, ?_⟩)) | ((with_reducible refine ⟨(_, _, _, _, _, _), by cbv, ?_, ?_⟩)) | ((with_reducible refine ⟨(_, _, _, _, _), by cbv, ?_, ?_⟩)) | ((with_reducible refine ⟨(_, _, _, _), by cbv, ?_, ?_⟩)) | ((with_reducible refine ⟨(_, _, _), by cbv, ?_, ?_⟩)) | ((with_reducible refine ⟨(_, _), by cbv, ?_, ?_⟩)) | ((with_reducible refine ⟨_, by cbv, ?_, ?_⟩)) | (with_reducible apply_assumption -symm -exfalso only [*]))
      all_goals ((try subst y_al2C); (try subst y_ln2C); (try subst y_itC); (try subst y_alC); (try subst y_lnC))
      all_goals (try (repeat' first | with_reducible exact obl0 | with_reducible refine obl1 ?_ ?_))
      all_goals (try first | with_reducible exact True.intro | ((first | refine ob_le hj ?_ | refine ob_lei hj ?_ | refine ob_inb hj ?_ | refine ob_pos hj ?_ | refine ob_ne0 hj ?_ | refine ob_eqb hj ?_); (first | rfl | first | omega | (simp only [hj, std]; split <;> omega) | (simp (disch := omega) only [hj, std, cmpI, cmpB, satB, add64, sub64, ite0, pl0, pl2, pl3, sb0, if_true, if_false, eq_self, hl1, hl2, l1, l2, e3, e4, e5, e6] <;> omega) | (simp (disch := omega) [hj, std, cmpI, cmpB, satB, add64, sub64, ite0, pl0, pl2, pl3, sb0, if_true, if_false, eq_self, hl1, hl2, l1, l2, e3, e4, e5, e6] <;> omega))) | ((refine ob_ok hj ?_; simp only [hj, std, ite0, e5, e6, c1, c2]; first | exact .inr ⟨_, _, rfl⟩ | exact ok_nsl _ _)) | ((refine ob_ok hj ?_; simp only [hj, std, ite0, b2, b4]; first | exact .inr ⟨_, _, rfl⟩ | exact ok_nsl _ _)))
      refine aw_lpj hj [(0, .keep), (1, .keep), (5, .keep), (6, .keep), (7, .keep), (8, .keep), (9, .keep)] [] (fun (⟨p, u7, c7, u8, c8⟩ : Int × Nat × (List C) × Nat × (List C)) => stOf 108 [(0, .one (.c (.sl n cs))), (1, .one (.c (.sl n ds))), (5, .one (.c (vI i))), (6, .one (.c (vI k))), (7, .one (.c (.sl u7 c7))), (8, .one (.c (.sl u8 c8))), (9, .one (.c (vI p)))] []) (fun (⟨p, u7, c7, u8, c8⟩ : Int × Nat × (List C) × Nat × (List C)) => al.length - p.toNat) (fun (⟨p, u7, c7, u8, c8⟩ : Int × Nat × (List C) × Nat × (List C)) => 0 ≤ p ∧ p ≤ al.length ∧ u7 = al.length ∧ c7 = itC al ∧ u8 = al.length ∧ c8 = itC al) ((_, _, _, _, _)) (by generalize @al2C = x_al2C; generalize @ln2C = x_ln2C; generalize @itC = x_itC; generalize @alC = x_alC; generalize @lnC = x_lnC; cbv) ?_ (fun ⟨p, u7, c7, u8, c8⟩ hI => ?_)
      · simp only [hj, std, ite0, e5, e6, e7, e8, e9, e10]; exact ⟨by omega, by omega, trivial, trivial, trivial, trivial⟩
      obtain ⟨p1, p2, rfl, rfl, rfl, rfl⟩ := hI
      have l3 := itC_len al
      rcases Decidable.em (p < (al.length : Int)) with hp | hp
      · obtain ⟨d1, d2⟩ := at_itC (a := al) (i := p.toNat) (by omega)
        generalize tAt al p.toNat = x at *
        have f1 : gb (cellAt (itC al) (p.toNat * 2)) = x.1 := by rw [d1]; rfl
        have f2 : gs (cellAt (itC al) (p.toNat * 2 + 1)) = x.2 := by rw [d2]; rfl
        generalize hit : itC al = es at *
        generalize hiu : al.length = u at *
        generalize y_al2C : @al2C = x_al2C at *
        generalize y_ln2C : @ln2C = x_ln2C at *
        generalize y_itC : @itC = x_itC at *
        generalize y_alC : @alC = x_alC at *
        generalize y_lnC : @lnC = x_lnC at *
        (repeat' first | ((first | with_reducible refine tr_cut (fun h => ?_) (fun h => ?_) | refine aw_condj (by cbv) (fun h => ?_) (fun h => ?_)) <;> (try simp (disch := omega) only [hj, std, cmpI, cmpB, satB, Bool.not_eq_true, Bool.not_eq_false, decide_eq_true_eq, decide_eq_false_iff_not, beq_iff_eq, bne_iff_ne, bne_eq_false_iff_eq, beq_eq_false_iff_ne, ne_eq, reduceCtorEq, not_true_eq_false, not_false_eq_true, pl0, if_true, cmpS_eq, cmpS_neq, Bool.not_eq_eq_eq_not, Bool.not_true, Bool.not_false, Bool.not_eq_true', f1, f2, ite0, add64, sub64] at h) <;> (try (exfalso; omega))) | (with_reducible refine tr_alt (fun h => ?_) ?_ <;> (try (exfalso; omega))) | (with_reducible refine tr_ob ?_ ?_) | (with_reducible refine tr_done ?_) | (refine aw_dr1 (id := 18) hj tok hm book0 true [(0, false), (1, false), (2, false), (3, false), (4, false), (5, false), (6, true), (7, true), (8, true), (9, true), (10, true), (11, true), (12, false), (13, false), (14, false), (15, false), (16, false), (17, false), (18, true), (19, true), (20, true), (21, true), (22, true), (23, true)] (by kernel_rfl) (by cbv) ?_) | (refine aw_dr (id := 18) hj tok hm book0 true [(0, false), (1, false), (2, false), (3, false), (4, false), (5, false), (6, true), (7, true), (8, true), (9, true), (10, true), (11, true), (12, false), (13, false), (14, false), (15, false), (16, false), (17, false), (18, true), (19, true), (20, true), (21, true), (22, true), (23, true)] (by kernel_rfl) (by cbv) ?_) | (refine aw_tr hj tok book0 (by cbv) ?_) | (refine aw_seq fun K hK => ?_) | (refine aw_tr1 hj tok book0 (by cbv) ?_) | (refine aw_skip ?_) | (refine aw_block ?_) | (refine aw_exit ?_) | (refine aw_ret ⟨.inr rfl, ret_okj hj (by cbv) ?_ ?_⟩) | (refine aw_ret ?_) | (with_reducible refine th_n ?_) | (with_reducible refine th_r ?_) | (with_reducible refine th_x ?_) | (with_reducible refine blk_n ?_) | (with_reducible refine blk_r ?_) | (with_reducible refine blk_x ?_) | (with_reducible refine blk_y rfl ?_) | (refine ⟨.inr rfl, ret_okj hj (by cbv) ?_ ?_⟩) | (refine ⟨.inl rfl, ret_okj hj (by cbv) ?_ ?_⟩) | ((with_reducible refine ⟨(_, _, _, _, _, _, _), by cbv, ?_, ?_⟩)) | ((with_reducible refine ⟨(_, _, _, _, _, _), by cbv, ?_, ?_⟩)) | ((with_reducible refine ⟨(_, _, _, _, _), by cbv, ?_, ?_⟩)) | ((with_reducible refine ⟨(_, _, _, _), by cbv, ?_, ?_⟩)) | ((with_reducible refine ⟨(_, _, _), by cbv, ?_, ?_⟩)) | ((with_reducible refine ⟨(_, _), by cbv, ?_, ?_⟩)) | ((with_reducible refine ⟨_, by cbv, ?_, ?_⟩)) | (with_reducible apply_assumption -symm -exfalso only [*]))
        all_goals ((try subst y_al2C); (try subst y_ln2C); (try subst y_itC); (try subst y_alC); (try subst y_lnC))
        all_goals (try (repeat' first | with_reducible exact obl0 | with_reducible refine obl1 ?_ ?_))
        all_goals (try first | with_reducible exact True.intro | ((first | refine ob_le hj ?_ | refine ob_lei hj ?_ | refine ob_inb hj ?_ | refine ob_pos hj ?_ | refine ob_ne0 hj ?_ | refine ob_eqb hj ?_); (first | rfl | first | omega | (simp only [hj, std]; split <;> omega) | (simp (disch := omega) only [hj, std, cmpI, cmpB, satB, add64, sub64, ite0, pl0, pl2, pl3, sb0, if_true, if_false, eq_self, l3] <;> omega) | (simp (disch := omega) [hj, std, cmpI, cmpB, satB, add64, sub64, ite0, pl0, pl2, pl3, sb0, if_true, if_false, eq_self, l3] <;> omega))) | ((refine ob_ok hj ?_; simp only [hj, std, ite0, d1, d2]; exact ⟨_, rfl⟩)) | ((simp (disch := omega) only [hj, std, add64]; first | omega | exact ⟨by omega, by omega, trivial, trivial, trivial, trivial⟩)))
      · generalize hit : itC al = es at *
        generalize hiu : al.length = u at *
        generalize y_al2C : @al2C = x_al2C at *
        generalize y_ln2C : @ln2C = x_ln2C at *
        generalize y_itC : @itC = x_itC at *
        generalize y_alC : @alC = x_alC at *
        generalize y_lnC : @lnC = x_lnC at *
        (repeat' first | ((first | with_reducible refine tr_cut (fun h => ?_) (fun h => ?_) | refine aw_condj (by cbv) (fun h => ?_) (fun h => ?_)) <;> (try simp (disch := omega) only [hj, std, cmpI, cmpB, satB, Bool.not_eq_true, Bool.not_eq_false, decide_eq_true_eq, decide_eq_false_iff_not, beq_iff_eq, bne_iff_ne, bne_eq_false_iff_eq, beq_eq_false_iff_ne, ne_eq, reduceCtorEq, not_true_eq_false, not_false_eq_true, pl0, if_true, cmpS_eq, cmpS_neq, Bool.not_eq_eq_eq_not, Bool.not_true, Bool.not_false, Bool.not_eq_true', ite0, add64, sub64] at h) <;> (try (exfalso; omega))) | (with_reducible refine tr_alt (fun h => ?_) ?_ <;> (try (exfalso; omega))) | (with_reducible refine tr_ob ?_ ?_) | (with_reducible refine tr_done ?_) | (refine aw_tr hj tok book0 (by cbv) ?_) | (refine aw_seq fun K hK => ?_) | (refine aw_tr1 hj tok book0 (by cbv) ?_) | (refine aw_skip ?_) | (refine aw_block ?_) | (refine aw_exit ?_) | (refine aw_ret ⟨.inr rfl, ret_okj hj (by cbv) ?_ ?_⟩) | (refine aw_ret ?_) | (with_reducible refine th_n ?_) | (with_reducible refine th_r ?_) | (with_reducible refine th_x ?_) | (with_reducible refine blk_n ?_) | (with_reducible refine blk_r ?_) | (with_reducible refine blk_x ?_) | (with_reducible refine blk_y rfl ?_) | (refine ⟨.inr rfl, ret_okj hj (by cbv) ?_ ?_⟩) | (refine ⟨.inl rfl, ret_okj hj (by cbv) ?_ ?_⟩) | ((with_reducible refine ⟨(_, _, _, _, _, _, _), by cbv, ?_, ?_⟩)) | ((with_reducible refine ⟨(_, _, _, _, _, _), by cbv, ?_, ?_⟩)) | ((with_reducible refine ⟨(_, _, _, _, _), by cbv, ?_, ?_⟩)) | ((with_reducible refine ⟨(_, _, _, _), by cbv, ?_, ?_⟩)) | ((with_reducible refine ⟨(_, _, _), by cbv, ?_, ?_⟩)) | ((with_reducible refine ⟨(_, _), by cbv, ?_, ?_⟩)) | ((with_reducible refine ⟨_, by cbv, ?_, ?_⟩)) | (with_reducible apply_assumption -symm -exfalso only [*]))
        all_goals ((try subst y_al2C); (try subst y_ln2C); (try subst y_itC); (try subst y_alC); (try subst y_lnC))
        all_goals (try (repeat' first | with_reducible exact obl0 | with_reducible refine obl1 ?_ ?_))
        all_goals (try first | with_reducible exact True.intro | ((first | refine ob_le hj ?_ | refine ob_lei hj ?_ | refine ob_inb hj ?_ | refine ob_pos hj ?_ | refine ob_ne0 hj ?_ | refine ob_eqb hj ?_); (first | rfl | first | omega | (simp only [hj, std]; split <;> omega) | (simp (disch := omega) only [hj, std, cmpI, cmpB, satB, add64, sub64, ite0, pl0, pl2, pl3, sb0, if_true, if_false, eq_self] <;> omega) | (simp (disch := omega) [hj, std, cmpI, cmpB, satB, add64, sub64, ite0, pl0, pl2, pl3, sb0, if_true, if_false, eq_self] <;> omega))) | ((simp (disch := omega) only [hj, std, add64]; first | omega | exact ⟨by omega, by omega⟩)))
    · generalize y_al2C : @al2C = x_al2C at *
      generalize y_ln2C : @ln2C = x_ln2C at *
      generalize y_itC : @itC = x_itC at *
      generalize y_alC : @alC = x_alC at *
      generalize y_lnC : @lnC = x_lnC at *
      (repeat' first | ((first | with_reducible refine tr_cut (fun h => ?_) (fun h => ?_) | refine aw_condj (by cbv) (fun h => ?_) (fun h => ?_)) <;> (try simp (disch := omega) only [hj, std, cmpI, cmpB, satB, Bool.not_eq_true, Bool.not_eq_false, decide_eq_true_eq, decide_eq_false_iff_not, beq_iff_eq, bne_iff_ne, bne_eq_false_iff_eq, beq_eq_false_iff_ne, ne_eq, reduceCtorEq, not_true_eq_false, not_false_eq_true, pl0, if_true, cmpS_eq, cmpS_neq, Bool.not_eq_eq_eq_not, Bool.not_true, Bool.not_false, Bool.not_eq_true', e3, ite0, add64, sub64] at h) <;> (try (exfalso; omega))) | (with_reducible refine tr_alt (fun h => ?_) ?_ <;> (try (exfalso; omega))) | (with_reducible refine tr_ob ?_ ?_) | (with_reducible refine tr_done ?_) | (refine aw_tr hj tok book0 (by cbv) ?_) | (refine aw_seq fun K hK => ?_) | (refine aw_tr1 hj tok book0 (by cbv) ?_) | (refine aw_skip ?_) | (refine aw_block ?_) | (refine aw_exit ?_) | (refine aw_ret ⟨.inr rfl, ret_okj hj (by cbv) ?_ ?_⟩) | (refine aw_ret ?_) | (with_reducible refine th_n ?_) | (with_reducible refine th_r ?_) | (with_reducible refine th_x ?_) | (with_reducible refine blk_n ?_) | (with_reducible refine blk_r ?_) | (with_reducible refine blk_x ?_) | (with_reducible refine blk_y rfl ?_) | (refine ⟨.inr rfl, ret_okj hj (by cbv) ?_ ?_⟩) | (refine ⟨.inl rfl, ret_okj hj (by cbv) ?_ ?_⟩) | ((with_reducible refine ⟨(_, _, _, _, _, _, _), by cbv, ?_, ?_⟩)) | ((with_reducible refine ⟨(_, _, _, _, _, _), by cbv, ?_, ?_⟩)) | ((with_reducible refine ⟨(_, _, _, _, _), by cbv, ?_, ?_⟩)) | ((with_reducible refine ⟨(_, _, _, _), by cbv, ?_, ?_⟩)) | ((with_reducible refine ⟨(_, _, _), by cbv, ?_, ?_⟩)) | ((with_reducible refine ⟨(_, _), by cbv, ?_, ?_⟩)) | ((with_reducible refine ⟨_, by cbv, ?_, ?_⟩)) | (with_reducible apply_assumption -symm -exfalso only [*]))
      all_goals ((try subst y_al2C); (try subst y_ln2C); (try subst y_itC); (try subst y_alC); (try subst y_lnC))
      all_goals (try (repeat' first | with_reducible exact obl0 | with_reducible refine obl1 ?_ ?_))
      all_goals (try first | with_reducible exact True.intro | ((first | refine ob_le hj ?_ | refine ob_lei hj ?_ | refine ob_inb hj ?_ | refine ob_pos hj ?_ | refine ob_ne0 hj ?_ | refine ob_eqb hj ?_); (first | rfl | first | omega | (simp only [hj, std]; split <;> omega) | (simp (disch := omega) only [hj, std, cmpI, cmpB, satB, add64, sub64, ite0, pl0, pl2, pl3, sb0, if_true, if_false, eq_self, hl1] <;> omega) | (simp (disch := omega) [hj, std, cmpI, cmpB, satB, add64, sub64, ite0, pl0, pl2, pl3, sb0, if_true, if_false, eq_self, hl1] <;> omega))) | ((refine ob_ok hj ?_; simp only [hj, std, ite0, b2, b4]; exact ok_nsl _ _)) | ((simp (disch := omega) only [hj, std, add64]; first | omega | exact ⟨by omega, by omega⟩)))
  · generalize y_al2C : @al2C = x_al2C at *
    generalize y_ln2C : @ln2C = x_ln2C at *
    generalize y_itC : @itC = x_itC at *
    generalize y_alC : @alC = x_alC at *
    generalize y_lnC : @lnC = x_lnC at *
    (repeat' first | ((first | with_reducible refine tr_cut (fun h => ?_) (fun h => ?_) | refine aw_condj (by cbv) (fun h => ?_) (fun h => ?_)) <;> (try simp (disch := omega) only [hj, std, cmpI, cmpB, satB, Bool.not_eq_true, Bool.not_eq_false, decide_eq_true_eq, decide_eq_false_iff_not, beq_iff_eq, bne_iff_ne, bne_eq_false_iff_eq, beq_eq_false_iff_ne, ne_eq, reduceCtorEq, not_true_eq_false, not_false_eq_true, pl0, if_true, cmpS_eq, cmpS_neq, Bool.not_eq_eq_eq_not, Bool.not_true, Bool.not_false, Bool.not_eq_true', ite0, add64, sub64] at h) <;> (try (exfalso; omega))) | (with_reducible refine tr_alt (fun h => ?_) ?_ <;> (try (exfalso; omega))) | (with_reducible refine tr_ob ?_ ?_) | (with_reducible refine tr_done ?_) | (refine aw_tr hj tok book0 (by cbv) ?_) | (refine aw_seq fun K hK => ?_) | (refine aw_tr1 hj tok book0 (by cbv) ?_) | (refine aw_skip ?_) | (refine aw_block ?_) | (refine aw_exit ?_) | (refine aw_ret ⟨.inr rfl, ret_okj hj (by cbv) ?_ ?_⟩) | (refine aw_ret ?_) | (with_reducible refine th_n ?_) | (with_reducible refine th_r ?_) | (with_reducible refine th_x ?_) | (with_reducible refine blk_n ?_) | (with_reducible refine blk_r ?_) | (with_reducible refine blk_x ?_) | (with_reducible refine blk_y rfl ?_) | (refine ⟨.inr rfl, ret_okj hj (by cbv) ?_ ?_⟩) | (refine ⟨.inl rfl, ret_okj hj (by cbv) ?_ ?_⟩) | ((with_reducible refine ⟨(_, _, _, _, _, _, _), by cbv, ?_, ?_⟩)) | ((with_reducible refine ⟨(_, _, _, _, _, _), by cbv, ?_, ?_⟩)) | ((with_reducible refine ⟨(_, _, _, _, _), by cbv, ?_, ?_⟩)) | ((with_reducible refine ⟨(_, _, _, _), by cbv, ?_, ?_⟩)) | ((with_reducible refine ⟨(_, _, _), by cbv, ?_, ?_⟩)) | ((with_reducible refine ⟨(_, _), by cbv, ?_, ?_⟩)) | ((with_reducible refine ⟨_, by cbv, ?_, ?_⟩)) | (with_reducible apply_assumption -symm -exfalso only [*]))
    all_goals ((try subst y_al2C); (try subst y_ln2C); (try subst y_itC); (try subst y_alC); (try subst y_lnC))
    all_goals (try (repeat' first | with_reducible exact obl0 | with_reducible refine obl1 ?_ ?_))
    all_goals (try first | with_reducible exact True.intro | ((first | refine ob_le hj ?_ | refine ob_lei hj ?_ | refine ob_inb hj ?_ | refine ob_pos hj ?_ | refine ob_ne0 hj ?_ | refine ob_eqb hj ?_); (first | rfl | first | omega | (simp only [hj, std]; split <;> omega) | (simp (disch := omega) only [hj, std, cmpI, cmpB, satB, add64, sub64, ite0, pl0, pl2, pl3, sb0, if_true, if_false, eq_self] <;> omega) | (simp (disch := omega) [hj, std, cmpI, cmpB, satB, add64, sub64, ite0, pl0, pl2, pl3, sb0, if_true, if_false, eq_self] <;> omega))) | (exact rfl))
end Go.Proofs.Ytljnfejcdadjpaa.A
/- Rules: the chapter's examples; ParseAll. -/
set_option linter.unusedSimpArgs false
set_option linter.unusedVariables false
set_option maxRecDepth 100000
set_option maxHeartbeats 4000000
namespace Go.Proofs.Ytljnfejcdadjpaa.A
open Go
theorem c_parse {s : ByteArray} (hs : s.size ≤ 65536) : pc 17 [.v false [vS s]] (rAllP s) :=
  ⟨enters Try.func17 (by kernel_rfl) (by kernel_rfl), pc_parseAll s hs⟩
theorem c_parse13 {s : ByteArray} (hs : s.size ≤ 65536) : pc 18 [.v false [vS s]] (rAllQ s) :=
  ⟨enters Try.func18 (by kernel_rfl) (by kernel_rfl), pc_All13 s hs⟩
theorem c_alike {s : ByteArray} (hs : s.size ≤ 65536) : pc 19 [.v false [.sl (pN s) (pC s)], .v false [.sl (pN s) (qC s)]] (ret1 (.st (vB true))) :=
  ⟨enters Try.func19 (by kernel_rfl) (by kernel_rfl), pc_alike (pAll s).1 (rSz_mono (pAll_sz s) (by omega))⟩
theorem p_of {s : ByteArray} {L : List Ln} {a e : Int} (h : pAll s = (L, a, e)) : pN s = L.length ∧ pC s = lnC L ∧ pA s = a ∧ pE s = e := by
  unfold pN pC pA pE; rw [h]; exact ⟨rfl, rfl, rfl, rfl⟩
theorem p_lit {s : ByteArray} {ts : List Tk} {v : List Ln × Int × Int} (h : lexGo s 0 = (ts, 0, 0)) (hv : rGo s.size ts ([], 0, false) = v) : pAll s = v := by
  obtain ⟨_, _, _, h4⟩ := lx_of h
  unfold pAll; rw [if_neg (by rw [h4]; decide), h]; exact hv
theorem awp2 : lexGo ⟨⟨[83, 32, 58, 32, 58]⟩⟩ 0 = ([(1, ⟨⟨[83]⟩⟩, 0), (3, ⟨⟨[58]⟩⟩, 2), (3, ⟨⟨[58]⟩⟩, 4)], 0, 0) := lx_lit (by decide +kernel)
theorem awp3 : lexGo ⟨⟨[83, 32, 58, 32, 39, 97, 39]⟩⟩ 0 = ([(1, ⟨⟨[83]⟩⟩, 0), (3, ⟨⟨[58]⟩⟩, 2), (2, ⟨⟨[97]⟩⟩, 4)], 0, 0) := lx_lit (by decide +kernel)
theorem paw1 : pAll ⟨⟨[83, 32, 58, 32, 39, 97, 39, 32, 83, 32, 124, 32, 59]⟩⟩ = ([(⟨⟨[83]⟩⟩, [[(true, ⟨⟨[97]⟩⟩), (false, ⟨⟨[83]⟩⟩)], []])], 0, 0) := p_lit awk1 rfl
theorem paw2 : pAll ⟨⟨[83, 32, 58, 32, 58]⟩⟩ = ([], 4, 14) := p_lit awp2 rfl
theorem paw3 : pAll ⟨⟨[83, 32, 58, 32, 39, 97, 39]⟩⟩ = ([], 7, 14) := p_lit awp3 rfl
def bookP5 (x_qC : ByteArray → List C) (x_pN : ByteArray → Nat) (x_pC : ByteArray → List C) (x_pA : ByteArray → Int) (x_pE : ByteArray → Int) : Book := fun f xs => match f, xs with
  | 17, [.v false [.val (.string s)]] => some (rets [(false, [.st (.sl (x_pN s) (x_pC s))]), (false, [.st (vI (x_pA s))]), (false, [.st (vI (x_pE s))])])
  | 18, [.v false [.val (.string s)]] => some (rets [(false, [.own lnT13 (x_pN s) (x_qC s)]), (false, [.st (vI (x_pA s))]), (false, [.st (vI (x_pE s))])])
  | 19, _ => some (ret1 (.st (vB true)))
  | 16, [] => some (ret1 (.st (vB true)))
  | _, _ => none
theorem pc_awake13 : PC Try.prog T 16 [] (ret1 (.st (vB true))) [] := by
  refine pc_of tok Try.func16 rfl (by rfl) ?_
  obtain ⟨j, hj⟩ : ∃ j : J, j = std Try.prog T := ⟨_, rfl⟩
  have hm : Try.prog.follows .mixedOrders = true := by kernel_rfl
  obtain ⟨a1, a2, a3, a4⟩ := p_of paw1
  obtain ⟨b1, b2, b3, b4⟩ := p_of paw2
  obtain ⟨c1, c2, c3, c4⟩ := p_of paw3
  have z1 : gn (cellAt (pC ⟨⟨[83, 32, 58, 32, 39, 97, 39, 32, 83, 32, 124, 32, 59]⟩⟩) (Int.toNat 0 * 2 + 1)) = 2 := by rw [a2]; rfl
  have z2 : gn (cellAt (gc (cellAt (pC ⟨⟨[83, 32, 58, 32, 39, 97, 39, 32, 83, 32, 124, 32, 59]⟩⟩) (Int.toNat 0 * 2 + 1))) (Int.toNat 0)) = 2 := by rw [a2]; rfl
  have z3 : gn (cellAt (gc (cellAt (pC ⟨⟨[83, 32, 58, 32, 39, 97, 39, 32, 83, 32, 124, 32, 59]⟩⟩) (Int.toNat 0 * 2 + 1))) (Int.toNat 1)) = 0 := by rw [a2]; rfl
  generalize y_qC : @qC = x_qC at *
  generalize y_pN : @pN = x_pN at *
  generalize y_pC : @pC = x_pC at *
  generalize y_pA : @pA = x_pA at *
  generalize y_pE : @pE = x_pE at *
  (repeat' first | ((first | with_reducible refine tr_cut (fun h => ?_) (fun h => ?_) | refine aw_condj (by cbv) (fun h => ?_) (fun h => ?_)) <;> (try simp (disch := omega) only [hj, std, cmpI, cmpB, satB, Bool.not_eq_true, Bool.not_eq_false, decide_eq_true_eq, decide_eq_false_iff_not, beq_iff_eq, bne_iff_ne, bne_eq_false_iff_eq, beq_eq_false_iff_ne, ne_eq, reduceCtorEq, not_true_eq_false, not_false_eq_true, pl0, if_true, cmpS_eq, cmpS_neq, Bool.not_eq_eq_eq_not, Bool.not_true, Bool.not_false, Bool.not_eq_true', a1, a3, a4, b3, b4, c3, c4, z1, z2, z3, ite0, add64, sub64] at h) <;> (try (exfalso; omega))) | (with_reducible refine tr_alt (fun h => ?_) ?_ <;> (try (exfalso; omega))) | (with_reducible refine tr_ob ?_ ?_) | (with_reducible refine tr_done ?_) | (refine aw_tr hj tok (bookP5 x_qC x_pN x_pC x_pA x_pE) (by cbv) ?_) | (refine aw_seq fun K hK => ?_) | (refine aw_tr1 hj tok (bookP5 x_qC x_pN x_pC x_pA x_pE) (by cbv) ?_) | (refine aw_skip ?_) | (refine aw_block ?_) | (refine aw_exit ?_) | (refine aw_ret ⟨.inr rfl, ret_okj hj (by cbv) ?_ ?_⟩) | (refine aw_ret ?_) | (with_reducible refine th_n ?_) | (with_reducible refine th_r ?_) | (with_reducible refine th_x ?_) | (with_reducible refine blk_n ?_) | (with_reducible refine blk_r ?_) | (with_reducible refine blk_x ?_) | (with_reducible refine blk_y rfl ?_) | (refine ⟨.inr rfl, ret_okj hj (by cbv) ?_ ?_⟩) | (refine ⟨.inl rfl, ret_okj hj (by cbv) ?_ ?_⟩) | ((with_reducible refine ⟨(_, _, _, _, _, _, _), by cbv, ?_, ?_⟩)) | ((with_reducible refine ⟨(_, _, _, _, _, _), by cbv, ?_, ?_⟩)) | ((with_reducible refine ⟨(_, _, _, _, _), by cbv, ?_, ?_⟩)) | ((with_reducible refine ⟨(_, _, _, _), by cbv, ?_, ?_⟩)) | ((with_reducible refine ⟨(_, _, _), by cbv, ?_, ?_⟩)) | ((with_reducible refine ⟨(_, _), by cbv, ?_, ?_⟩)) | ((with_reducible refine ⟨_, by cbv, ?_, ?_⟩)) | (with_reducible apply_assumption -symm -exfalso only [*]))
  all_goals ((try subst y_qC); (try subst y_pN); (try subst y_pC); (try subst y_pA); (try subst y_pE))
  all_goals (try (repeat' first | with_reducible exact obl0 | with_reducible refine obl1 ?_ ?_))
  all_goals (try first | with_reducible exact True.intro | (refine ob_pc hj ?_; (try rw [hj]); first | exact c_parse (show _ ≤ 65536 by decide)) | (refine ob_pcn hj ?_; (try rw [hj]); first | exact c_parse (show _ ≤ 65536 by decide)) | ((first | refine ob_le hj ?_ | refine ob_lei hj ?_ | refine ob_inb hj ?_ | refine ob_pos hj ?_ | refine ob_ne0 hj ?_ | refine ob_eqb hj ?_); (first | rfl | first | omega | (simp only [hj, std]; split <;> omega) | (simp (disch := omega) only [hj, std, cmpI, cmpB, satB, add64, sub64, ite0, pl0, pl2, pl3, sb0, if_true, if_false, eq_self] <;> omega) | (simp (disch := omega) [hj, std, cmpI, cmpB, satB, add64, sub64, ite0, pl0, pl2, pl3, sb0, if_true, if_false, eq_self] <;> omega))) | ((rw [hj, a2]; exact (show _ ≤ _ by decide))) | ((rw [hj, a2]; first | exact .inr ⟨_, _, rfl⟩ | exact .inl rfl)) | ((refine r1b ?_; rw [hj, c4]; rfl)) | ((exfalso; exact (by assumption : ¬ (([((⟨⟨[83]⟩⟩ : ByteArray), [[(true, (⟨⟨[97]⟩⟩ : ByteArray)), (false, ⟨⟨[83]⟩⟩)], []])] : List Ln).length : Int) = 1) rfl)))
theorem c_awake13 : pc 16 [] (ret1 (.st (vB true))) := ⟨enters Try.func16 (by kernel_rfl) (by kernel_rfl), pc_awake13⟩
theorem pc_ParseAllL (s : ByteArray) (hs : s.size ≤ 140737488351232) : PC Try.prog T 6 [.v false [vS s]] (ret1 (.st (vB true))) [] := by
  refine pc_of tok Try.func6 rfl (by rfl) ?_
  obtain ⟨j, hj⟩ : ∃ j : J, j = std Try.prog T := ⟨_, rfl⟩
  have hm : Try.prog.follows .mixedOrders = true := by kernel_rfl
  generalize y_qC : @qC = x_qC at *
  generalize y_pN : @pN = x_pN at *
  generalize y_pC : @pC = x_pC at *
  generalize y_pA : @pA = x_pA at *
  generalize y_pE : @pE = x_pE at *
  (repeat' first | ((first | with_reducible refine tr_cut (fun h => ?_) (fun h => ?_) | refine aw_condj (by cbv) (fun h => ?_) (fun h => ?_)) <;> (try simp (disch := omega) only [hj, std, cmpI, cmpB, satB, Bool.not_eq_true, Bool.not_eq_false, decide_eq_true_eq, decide_eq_false_iff_not, beq_iff_eq, bne_iff_ne, bne_eq_false_iff_eq, beq_eq_false_iff_ne, ne_eq, reduceCtorEq, not_true_eq_false, not_false_eq_true, pl0, if_true, cmpS_eq, cmpS_neq, Bool.not_eq_eq_eq_not, Bool.not_true, Bool.not_false, Bool.not_eq_true', add64, sub64] at h) <;> (try (exfalso; omega))) | (with_reducible refine tr_alt (fun h => ?_) ?_ <;> (try (exfalso; omega))) | (with_reducible refine tr_ob ?_ ?_) | (with_reducible refine tr_done ?_) | (refine aw_tr hj tok (bookP5 x_qC x_pN x_pC x_pA x_pE) (by cbv) ?_) | (refine aw_seq fun K hK => ?_) | (refine aw_tr1 hj tok (bookP5 x_qC x_pN x_pC x_pA x_pE) (by cbv) ?_) | (refine aw_skip ?_) | (refine aw_block ?_) | (refine aw_exit ?_) | (refine aw_ret ⟨.inr rfl, ret_okj hj (by cbv) ?_ ?_⟩) | (refine aw_ret ?_) | (with_reducible refine th_n ?_) | (with_reducible refine th_r ?_) | (with_reducible refine th_x ?_) | (with_reducible refine blk_n ?_) | (with_reducible refine blk_r ?_) | (with_reducible refine blk_x ?_) | (with_reducible refine blk_y rfl ?_) | (refine ⟨.inr rfl, ret_okj hj (by cbv) ?_ ?_⟩) | (refine ⟨.inl rfl, ret_okj hj (by cbv) ?_ ?_⟩) | ((with_reducible refine ⟨(_, _, _, _, _, _, _), by cbv, ?_, ?_⟩)) | ((with_reducible refine ⟨(_, _, _, _, _, _), by cbv, ?_, ?_⟩)) | ((with_reducible refine ⟨(_, _, _, _, _), by cbv, ?_, ?_⟩)) | ((with_reducible refine ⟨(_, _, _, _), by cbv, ?_, ?_⟩)) | ((with_reducible refine ⟨(_, _, _), by cbv, ?_, ?_⟩)) | ((with_reducible refine ⟨(_, _), by cbv, ?_, ?_⟩)) | ((with_reducible refine ⟨_, by cbv, ?_, ?_⟩)) | (with_reducible apply_assumption -symm -exfalso only [*]))
  all_goals ((try subst y_qC); (try subst y_pN); (try subst y_pC); (try subst y_pA); (try subst y_pE))
  all_goals (try (repeat' first | with_reducible exact obl0 | with_reducible refine obl1 ?_ ?_))
  all_goals (try first | with_reducible exact True.intro | (refine ob_pc hj ?_; (try rw [hj]); first | exact c_awake13 | exact c_parse (show _ ≤ 65536 by omega) | exact c_parse13 (show _ ≤ 65536 by omega) | exact c_alike (show _ ≤ 65536 by omega)) | (refine ob_pcn hj ?_; (try rw [hj]); first | exact c_awake13 | exact c_parse (show _ ≤ 65536 by omega) | exact c_parse13 (show _ ≤ 65536 by omega) | exact c_alike (show _ ≤ 65536 by omega)) | ((first | refine ob_le hj ?_ | refine ob_lei hj ?_ | refine ob_inb hj ?_ | refine ob_pos hj ?_ | refine ob_ne0 hj ?_ | refine ob_eqb hj ?_); (first | rfl | first | omega | (simp only [hj, std]; split <;> omega) | (simp (disch := omega) only [hj, std, cmpI, cmpB, satB, add64, sub64, ite0, pl0, pl2, pl3, sb0, if_true, if_false, eq_self] <;> omega) | (simp (disch := omega) [hj, std, cmpI, cmpB, satB, add64, sub64, ite0, pl0, pl2, pl3, sb0, if_true, if_false, eq_self] <;> omega))) | (exact rfl))
end Go.Proofs.Ytljnfejcdadjpaa.A
/- ParseAll: the walk, as the row's step asks for it. -/
set_option linter.unusedSimpArgs false
set_option linter.unusedVariables false
set_option maxRecDepth 100000
set_option maxHeartbeats 4000000
namespace Go.Proofs.Ytljnfejcdadjpaa
open Go Go.RowKit
theorem parseAll_walk (w : World) (s : ByteArray) (hs : s.size ≤ 140737488351232) : Calls Try.prog 6 #[.string s] w fun e w' => e = .returned (.bool true) ∧ Below w.heap.size w w' :=
  A.walk_of_pc (vs := [.string s]) (A.pc_ParseAllL s hs) (by simp [A.Arg.asRoot]) (fun _ => False) (fun _ h => h.elim) rfl (fun i h h2 => by
    have h3 : i < 1 := h
    obtain rfl : i = 0 := by omega
    exact ⟨_, rfl, .val rfl⟩)
end Go.Proofs.Ytljnfejcdadjpaa
