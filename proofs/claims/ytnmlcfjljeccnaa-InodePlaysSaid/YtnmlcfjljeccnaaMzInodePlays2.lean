/- What InodePlays needs beyond, part 2. -/
import Derived.Test.YtnmlcfjljeccnaaMzInodePlays1
/- The law of layer 8: the walk. -/
set_option linter.unusedSimpArgs false
set_option linter.unusedVariables false
set_option maxRecDepth 100000
set_option maxHeartbeats 4000000
namespace Go.Proofs.Ytnmlcfjljeccnaa.A
open Go
def bookI4 (x_zN : Nat → Int) (x_secN : Int → Int → Int) (x_fewI : Nat → List C → Bool) (x_doN : Nat → Int → Int → Nat → Int → Nat) (x_doC : Nat → Int → Int → List C → List C → List C → Int → List C) (x_doS : Nat → Nat → Int → Int → Nat) (x_tkC : List C → Nat → List C) : Book := fun f xs => match f, xs with
  | 19, [.v false [.sl n cs]] => some (ret1 (.st (vB (x_fewI n cs))))
  | 20, _ => some (ret1 (.st (vB true)))
  | 21, [.v false [.sl n cs]] => some (⟨false, []⟩, [.box [.own uT n cs, .st (vI (x_zN n))]])
  | 22, [.root (.box [.own _ n cs, .st (.val (.int _ z))]), .v true [.sl _ _, .sl s _], .v true [.val (.int _ kd), .sl bn bs, .val (.int _ an), .sl _ ks]] =>
    some (rets [(true, [.st (.sl (x_doN n z kd bn an) (x_doC n z kd cs bs ks an)), .st (.sl (x_doS n s kd an) (x_tkC (x_doC n z kd cs bs ks an) (x_doS n s kd an)))]), (false, [.st (vB true)])], [.box [.own uT (x_doN n z kd bn an) (x_doC n z kd cs bs ks an), .st (vI (x_zN (x_doS n s kd an)))], .none, .none])
  | 24, [.v false [.mem [.sl n cs, .val (.int _ s)] 0]] => some (ret1 (.st (vI (x_zN n))))
  | 25, [.v false [.mem [.sl n cs, .val (.int _ s)] 0]] => some (ret1 (.st (vI s)))
  | 23, [.v false [.mem [.sl n cs, .val (.int _ s)] 0]] => some (ret1 (.own uT n cs))
  | 26, [.v false [.mem [.sl n cs, .val (.int _ s)] 0]] => some (ret1 (.st (vI (x_secN (x_zN n) s))))
  | 27, [.v true [.sl n _, .sl s _]] => some (ret1 (.st (vI (x_secN (x_zN n) (x_zN s)))))
  | _, _ => none
structure ActAt (ac : List C) (k : Nat) (kd : Int) (bn : Nat) (bs : List C) (an : Int) (kn : Nat) (ks : List C) : Prop where
  a0 : cellAt ac (k * 4) = vI kd
  a1 : cellAt ac (k * 4 + 1) = .sl bn bs
  a2 : cellAt ac (k * 4 + 2) = vI an
  a3 : cellAt ac (k * 4 + 3) = .sl kn ks
  bl : bs.length = bn
  bb : isBytesC bs
  kl : ks.length = kn
  kb : kn ≤ 140737488355328
  ok : ∀ q, q < kn → okK (.int .i64) (cellAt ks q)
theorem pc_InodePlaysL (nb m : Nat) (bb ac : List C) (hbl : bb.length = nb) (hbb : isBytesC bb) (hnb : nb ≤ 140737488355328) (hm4 : ac.length = m * 4) (hmm : m ≤ 140737488355328)
    (hA : ∀ k, k < m → ∃ kd bn bs an kn ks, ActAt ac k kd bn bs an kn ks) : PC Try.prog T 4 [.v false [.sl nb bb], .v false [.sl m ac]] (ret1 (.st (vB true))) [] := by
  have cF : pc 19 [.v false [.sl m ac]] (ret1 (.st (vB (fewI m ac)))) := ⟨enters Try.func19 (by kernel_rfl) (by kernel_rfl), pc_fewI m ac hm4 fun k hk => by
    obtain ⟨kd, bn, bs, an, kn, ks, h⟩ := hA k hk
    exact ⟨by rw [h.a1]; exact .inr ⟨_, _, rfl⟩, by rw [h.a3]; exact .inr ⟨_, _, rfl⟩⟩⟩
  have eF : fewI m ac = true → m ≤ 30 ∧ ∀ k, k < m → gn (cellAt ac (k * 4 + 1)) ≤ 100 ∧ gn (cellAt ac (k * 4 + 3)) ≤ 20 := fun h => of_decide_eq_true h
  have hz := zN_eq
  refine pc_of tok Try.func4 rfl (by rfl) ?_
  obtain ⟨j, hj⟩ : ∃ j : J, j = std Try.prog T := ⟨_, rfl⟩
  have hm : Try.prog.follows .mixedOrders = true := by kernel_rfl
  generalize y_zN : @zN = x_zN at *
  generalize y_secN : @secN = x_secN at *
  generalize y_fewI : @fewI = x_fewI at *
  generalize y_doN : @doN = x_doN at *
  generalize y_doC : @doC = x_doC at *
  generalize y_doS : @doS = x_doS at *
  generalize y_tkC : @tkC = x_tkC at *
  (repeat' first | ((first | with_reducible refine tr_cut (fun h => ?_) (fun h => ?_) | refine aw_condj (by cbv) (fun h => ?_) (fun h => ?_)) <;> (try simp (disch := omega) only [hj, std, cmpI, cmpB, satB, Bool.not_eq_true, Bool.not_eq_false, decide_eq_true_eq, decide_eq_false_iff_not, beq_iff_eq, bne_iff_ne, bne_eq_false_iff_eq, beq_eq_false_iff_ne, ne_eq, reduceCtorEq, not_true_eq_false, not_false_eq_true, pl0, if_true, cmpS_eq, cmpS_neq, Bool.not_eq_eq_eq_not, Bool.not_true, Bool.not_false, Bool.not_eq_true', add64, sub64] at h) <;> (try (exfalso; omega))) | (with_reducible refine tr_alt (fun h => ?_) ?_ <;> (try (exfalso; omega))) | (with_reducible refine tr_ob ?_ ?_) | (with_reducible refine tr_done ?_) | (refine aw_tr hj tok (bookI4 x_zN x_secN x_fewI x_doN x_doC x_doS x_tkC) (by cbv) ?_) | (refine aw_seq fun K hK => ?_) | (refine aw_tr1 hj tok (bookI4 x_zN x_secN x_fewI x_doN x_doC x_doS x_tkC) (by cbv) ?_) | (refine aw_skip ?_) | (refine aw_block ?_) | (refine aw_exit ?_) | (refine aw_ret ⟨.inr rfl, ret_okj hj (by cbv) ?_ ?_⟩) | (refine aw_ret ?_) | (with_reducible refine th_n ?_) | (with_reducible refine th_r ?_) | (with_reducible refine th_x ?_) | (with_reducible refine blk_n ?_) | (with_reducible refine blk_r ?_) | (with_reducible refine blk_x ?_) | (with_reducible refine blk_y rfl ?_) | (refine ⟨.inr rfl, ret_okj hj (by cbv) ?_ ?_⟩) | (refine ⟨.inl rfl, ret_okj hj (by cbv) ?_ ?_⟩) | ((with_reducible refine ⟨(_, _, _, _, _, _, _, _), by cbv, ?_, ?_⟩)) | ((with_reducible refine ⟨(_, _, _, _, _, _, _), by cbv, ?_, ?_⟩)) | ((with_reducible refine ⟨_, by cbv, ?_, ?_⟩)) | (with_reducible apply_assumption -symm -exfalso only [*]))
  all_goals ((try subst y_zN); (try subst y_secN); (try subst y_fewI); (try subst y_doN); (try subst y_doC); (try subst y_doS); (try subst y_tkC))
  all_goals (try (have hfw := eF (by assumption)))
  all_goals (try (repeat' first | with_reducible exact obl0 | with_reducible refine obl1 ?_ ?_))
  all_goals (try first | with_reducible exact True.intro | (refine ob_pc hj ?_; (try rw [hj]); first | exact cF | exact c_awake08 | exact c_NewI _ _ hbl hnb) | (refine ob_pcn hj ?_; (try rw [hj]); first | exact cF | exact c_awake08 | exact c_NewI _ _ hbl hnb) | ((first | refine ob_le hj ?_ | refine ob_lei hj ?_ | refine ob_inb hj ?_ | refine ob_pos hj ?_ | refine ob_ne0 hj ?_ | refine ob_eqb hj ?_); (first | rfl | first | omega | (simp only [hj, std]; split <;> omega) | (simp (disch := omega) only [hj, std, cmpI, cmpB, satB, add64, sub64, ite0, pl0, pl2, pl3, sb0, if_true, if_false, eq_self] <;> omega) | (simp (disch := omega) [hj, std, cmpI, cmpB, satB, add64, sub64, ite0, pl0, pl2, pl3, sb0, if_true, if_false, eq_self] <;> omega))) | (exact rfl) | ((refine ob_vals hj ?_; exact bytes_vals hbb)))
  refine aw_lpj hj [(1, .keep), (5, .keep), (6, .keep), (7, .keep)] [20, 6] (fun (⟨i, n, cs, z, n2, cs2, s, ds⟩ : Int × Nat × (List C) × Int × Nat × (List C) × Nat × (List C)) => stOf 76 [(1, .one (.c (.sl m ac))), (5, .one (.ptr 20 0)), (6, .one (.ptr 6 0)), (7, .one (.c (vI i)))] [(20, .box [.own uT n cs, .st (vI z)]), (6, .box [.st (.sl n2 cs2), .st (.sl s ds)])]) (fun (⟨i, n, cs, z, n2, cs2, s, ds⟩ : Int × Nat × (List C) × Int × Nat × (List C) × Nat × (List C)) => m - i.toNat) (fun (⟨i, n, cs, z, n2, cs2, s, ds⟩ : Int × Nat × (List C) × Int × Nat × (List C) × Nat × (List C)) => 0 ≤ i ∧ i ≤ m ∧ n2 = n ∧ cs2 = cs ∧ z = zN s ∧ ds = cs.take s ∧ s ≤ n ∧ cs.length = n ∧ (n : Int) ≤ 300 + 100 * i ∧ isBytesC cs) ((0, nb, bb, zN nb, nb, bb, nb, bb)) (by generalize @zN = x_zN; generalize @secN = x_secN; generalize @fewI = x_fewI; generalize @doN = x_doN; generalize @doC = x_doC; generalize @doS = x_doS; generalize @tkC = x_tkC; cbv) ?_ (fun ⟨i, n, cs, z, n2, cs2, s, ds⟩ hI => ?_)
  · exact ⟨by omega, by omega, rfl, rfl, rfl, (by rw [List.take_of_length_le (by omega)]), by omega, hbl, by omega, hbb⟩
  obtain ⟨i1, i2, h1, h2, h3, hds, hs, hl, hn, hb⟩ := hI
  subst h1; subst h2; subst h3
  obtain ⟨hm30, hfk⟩ := hfw
  rcases Decidable.em (i < (m : Int)) with hi | hi
  · obtain ⟨kd, bn, bs, an, kn, ks, h⟩ := hA i.toNat (by omega)
    obtain ⟨q1, q2⟩ := hfk i.toNat (by omega)
    have e0 : gi (cellAt ac (i.toNat * 4)) = kd := by rw [h.a0]; rfl
    have e1 : gn (cellAt ac (i.toNat * 4 + 1)) = bn := by rw [h.a1]; rfl
    have e2 : gc (cellAt ac (i.toNat * 4 + 1)) = bs := by rw [h.a1]; rfl
    have e3 : gi (cellAt ac (i.toNat * 4 + 2)) = an := by rw [h.a2]; rfl
    have e4 : gn (cellAt ac (i.toNat * 4 + 3)) = kn := by rw [h.a3]; rfl
    have e5 : gc (cellAt ac (i.toNat * 4 + 3)) = ks := by rw [h.a3]; rfl
    have o0 : okK (.int .i64) (cellAt ac (i.toNat * 4)) := by rw [h.a0]; exact ⟨_, rfl⟩
    have o1 : okK .sl (cellAt ac (i.toNat * 4 + 1)) := by rw [h.a1]; exact .inr ⟨_, _, rfl⟩
    have o2 : okK (.int .i64) (cellAt ac (i.toNat * 4 + 2)) := by rw [h.a2]; exact ⟨_, rfl⟩
    have o3 : okK .sl (cellAt ac (i.toNat * 4 + 3)) := by rw [h.a3]; exact .inr ⟨_, _, rfl⟩
    rw [e1] at q1
    have f1 : (i + 1).toNat = i.toNat + 1 := by omega
    have hbl := h.bl
    have cD := c_do _ s bn kn _ ds bs ks kd an hs (by omega) hl hds h.bl h.kl h.kb hb h.bb h.ok
    obtain ⟨d1, d2⟩ := doN_le (bn := bn) (kd := kd) (an := an) hs
    obtain ⟨d3, d4⟩ := doC_ok (kd := kd) (an := an) (ks := ks) hs hl h.bl hb h.bb
    clear hfk hA eF cF
    generalize y_zN : @zN = x_zN at *
    generalize y_secN : @secN = x_secN at *
    generalize y_fewI : @fewI = x_fewI at *
    generalize y_doN : @doN = x_doN at *
    generalize y_doC : @doC = x_doC at *
    generalize y_doS : @doS = x_doS at *
    generalize y_tkC : @tkC = x_tkC at *
    (repeat' first | (with_reducible refine aw_stop (id := 9) ?_) | (with_reducible refine aw_stop1 (id := 9) ?_) | (with_reducible refine aw_stop2 (id := 9) ?_) | ((first | with_reducible refine tr_cut (fun h => ?_) (fun h => ?_) | refine aw_condj (by cbv) (fun h => ?_) (fun h => ?_)) <;> (try simp (disch := omega) only [hj, std, cmpI, cmpB, satB, Bool.not_eq_true, Bool.not_eq_false, decide_eq_true_eq, decide_eq_false_iff_not, beq_iff_eq, bne_iff_ne, bne_eq_false_iff_eq, beq_eq_false_iff_ne, ne_eq, reduceCtorEq, not_true_eq_false, not_false_eq_true, pl0, if_true, cmpS_eq, cmpS_neq, Bool.not_eq_eq_eq_not, Bool.not_true, Bool.not_false, Bool.not_eq_true', add64, sub64] at h) <;> (try (exfalso; omega))) | (with_reducible refine tr_alt (fun h => ?_) ?_ <;> (try (exfalso; omega))) | (with_reducible refine tr_ob ?_ ?_) | (with_reducible refine tr_done ?_) | (refine aw_tr hj tok (bookI4 x_zN x_secN x_fewI x_doN x_doC x_doS x_tkC) (by cbv) ?_) | (refine aw_seq fun K hK => ?_) | (refine aw_tr1 hj tok (bookI4 x_zN x_secN x_fewI x_doN x_doC x_doS x_tkC) (by cbv) ?_) | (refine aw_skip ?_) | (refine aw_block ?_) | (refine aw_exit ?_) | (refine aw_ret ⟨.inr rfl, ret_okj hj (by cbv) ?_ ?_⟩) | (refine aw_ret ?_) | (with_reducible refine th_n ?_) | (with_reducible refine th_r ?_) | (with_reducible refine th_x ?_) | (with_reducible refine blk_n ?_) | (with_reducible refine blk_r ?_) | (with_reducible refine blk_x ?_) | (with_reducible refine blk_y rfl ?_) | (refine ⟨.inr rfl, ret_okj hj (by cbv) ?_ ?_⟩) | (refine ⟨.inl rfl, ret_okj hj (by cbv) ?_ ?_⟩) | ((with_reducible refine ⟨(_, _, _, _, _, _, _, _), by cbv, ?_, ?_⟩)) | ((with_reducible refine ⟨(_, _, _, _, _, _, _), by cbv, ?_, ?_⟩)) | ((with_reducible refine ⟨_, by cbv, ?_, ?_⟩)) | (with_reducible apply_assumption -symm -exfalso only [*]))
    all_goals ((try subst y_zN); (try subst y_secN); (try subst y_fewI); (try subst y_doN); (try subst y_doC); (try subst y_doS); (try subst y_tkC))
    all_goals (try (repeat' first | with_reducible exact obl0 | with_reducible refine obl1 ?_ ?_))
    all_goals (try first | with_reducible exact True.intro | ((first | refine ob_le hj ?_ | refine ob_lei hj ?_ | refine ob_inb hj ?_ | refine ob_pos hj ?_ | refine ob_ne0 hj ?_ | refine ob_eqb hj ?_); (first | rfl | first | omega | (simp only [hj, std]; split <;> omega) | (simp (disch := omega) only [hj, std, cmpI, cmpB, satB, add64, sub64, ite0, pl0, pl2, pl3, sb0, if_true, if_false, eq_self] <;> omega) | (simp (disch := omega) [hj, std, cmpI, cmpB, satB, add64, sub64, ite0, pl0, pl2, pl3, sb0, if_true, if_false, eq_self] <;> omega))))
    refine stop_go ?_; refine aw_joinj hj [(1, .keep), (5, .keep), (6, .keep), (7, .keep), (8, .keep), (9, .keep)] [20, 6, 8] (fun (⟨nn, cc, zz, n3, cs3, s2, ds2⟩ : Nat × (List C) × Int × Nat × (List C) × Nat × (List C)) => stOf 76 [(1, .one (.c (.sl m ac))), (5, .one (.ptr 20 0)), (6, .one (.ptr 6 0)), (7, .one (.c (vI i))), (8, .one (.ptr 8 0)), (9, .one (.c (vB true)))] [(20, .box [.own uT nn cc, .st (vI zz)]), (6, .box [.st (.sl n2 cs2), .st (.sl s ds)]), (8, .box [.st (.sl n3 cs3), .st (.sl s2 ds2)])]) (fun (⟨nn, cc, zz, n3, cs3, s2, ds2⟩ : Nat × (List C) × Int × Nat × (List C) × Nat × (List C)) => n3 = nn ∧ cs3 = cc ∧ zz = zN s2 ∧ ds2 = cc.take s2 ∧ s2 ≤ nn ∧ cc.length = nn ∧ (nn : Int) ≤ 400 + 100 * i ∧ isBytesC cc) ?_ (fun ⟨nn, cc, zz, n3, cs3, s2, ds2⟩ hI => ?_)
    · generalize y_zN : @zN = x_zN at *
      generalize y_secN : @secN = x_secN at *
      generalize y_fewI : @fewI = x_fewI at *
      generalize y_doN : @doN = x_doN at *
      generalize y_doC : @doC = x_doC at *
      generalize y_doS : @doS = x_doS at *
      generalize y_tkC : @tkC = x_tkC at *
      (repeat' first | ((first | with_reducible refine tr_cut (fun h => ?_) (fun h => ?_) | refine aw_condj (by cbv) (fun h => ?_) (fun h => ?_)) <;> (try simp (disch := omega) only [hj, std, cmpI, cmpB, satB, Bool.not_eq_true, Bool.not_eq_false, decide_eq_true_eq, decide_eq_false_iff_not, beq_iff_eq, bne_iff_ne, bne_eq_false_iff_eq, beq_eq_false_iff_ne, ne_eq, reduceCtorEq, not_true_eq_false, not_false_eq_true, pl0, if_true, cmpS_eq, cmpS_neq, Bool.not_eq_eq_eq_not, Bool.not_true, Bool.not_false, Bool.not_eq_true', add64, sub64] at h) <;> (try (exfalso; omega))) | (with_reducible refine tr_alt (fun h => ?_) ?_ <;> (try (exfalso; omega))) | (with_reducible refine tr_ob ?_ ?_) | (with_reducible refine tr_done ?_) | (refine aw_dc1 (id := 8) hj tok hm (bookI4 x_zN x_secN x_fewI x_doN x_doC x_doS x_tkC) [0, 2, 3, 4, 5] (.alt 1 (.alt 6 (.take 7 (.take 8 (.take 9 (.last 10 (.last 11 (.take 12 .done)))))) (.last 10 (.last 6 (.take 7 (.take 8 (.take 9 (.last 11 (.take 12 .done)))))))) (.last 10 (.last 1 (.last 6 (.take 7 (.take 8 (.take 9 (.last 11 (.take 12 .done))))))))) (by kernel_rfl) (by cbv) ?_) | (refine aw_dc (id := 8) hj tok hm (bookI4 x_zN x_secN x_fewI x_doN x_doC x_doS x_tkC) [0, 2, 3, 4, 5] (.alt 1 (.alt 6 (.take 7 (.take 8 (.take 9 (.last 10 (.last 11 (.take 12 .done)))))) (.last 10 (.last 6 (.take 7 (.take 8 (.take 9 (.last 11 (.take 12 .done)))))))) (.last 10 (.last 1 (.last 6 (.take 7 (.take 8 (.take 9 (.last 11 (.take 12 .done))))))))) (by kernel_rfl) (by cbv) ?_) | (refine aw_tr hj tok (bookI4 x_zN x_secN x_fewI x_doN x_doC x_doS x_tkC) (by cbv) ?_) | (refine aw_seq fun K hK => ?_) | (refine aw_tr1 hj tok (bookI4 x_zN x_secN x_fewI x_doN x_doC x_doS x_tkC) (by cbv) ?_) | (refine aw_skip ?_) | (refine aw_block ?_) | (refine aw_exit ?_) | (refine aw_ret ⟨.inr rfl, ret_okj hj (by cbv) ?_ ?_⟩) | (refine aw_ret ?_) | (with_reducible refine th_n ?_) | (with_reducible refine th_r ?_) | (with_reducible refine th_x ?_) | (with_reducible refine blk_n ?_) | (with_reducible refine blk_r ?_) | (with_reducible refine blk_x ?_) | (with_reducible refine blk_y rfl ?_) | (refine ⟨.inr rfl, ret_okj hj (by cbv) ?_ ?_⟩) | (refine ⟨.inl rfl, ret_okj hj (by cbv) ?_ ?_⟩) | ((with_reducible refine ⟨(_, _, _, _, _, _, _, _), by cbv, ?_, ?_⟩)) | ((with_reducible refine ⟨(_, _, _, _, _, _, _), by cbv, ?_, ?_⟩)) | ((with_reducible refine ⟨_, by cbv, ?_, ?_⟩)) | (with_reducible apply_assumption -symm -exfalso only [*]))
      all_goals ((try subst y_zN); (try subst y_secN); (try subst y_fewI); (try subst y_doN); (try subst y_doC); (try subst y_doS); (try subst y_tkC))
      all_goals (try (repeat' first | with_reducible exact obl0 | with_reducible refine obl1 ?_ ?_))
      all_goals (try first | with_reducible exact True.intro | ((first | refine ob_le hj ?_ | refine ob_lei hj ?_ | refine ob_inb hj ?_ | refine ob_pos hj ?_ | refine ob_ne0 hj ?_ | refine ob_eqb hj ?_); (first | rfl | first | omega | (simp only [hj, std]; split <;> omega) | (simp (disch := omega) only [hj, std, cmpI, cmpB, satB, add64, sub64, ite0, pl0, pl2, pl3, sb0, if_true, if_false, eq_self, hm4] <;> omega) | (simp (disch := omega) [hj, std, cmpI, cmpB, satB, add64, sub64, ite0, pl0, pl2, pl3, sb0, if_true, if_false, eq_self, hm4] <;> omega))) | ((refine ob_pc hj ?_; simp only [hj, std, ite0, e0, e1, e2, e3, e4, e5]; exact cD)) | ((refine ob_ok hj ?_; simp only [hj, std, ite0]; first | exact o0 | exact o1 | exact o2 | exact o3)) | ((refine ob_vals hj ?_; simp only [hj, std, ite0, e0, e1, e2, e3, e4, e5]; exact bytes_vals d4)) | ((simp only [hj, std, ite0, e0, e1, e2, e3, e4, e5]; exact ⟨by trivial, by trivial, by trivial, by trivial, d2, d3, by omega, d4⟩)))
    · clear cD d1 d2 d3 d4 hl hn hb hs hds
      obtain ⟨h1, h2, h3, hds, hs, hl, hn, hb⟩ := hI
      subst h1; subst h2; subst h3
      have cS := c_SectorsI n3 cs3 (zN s2) (by rw [zN_eq]; omega) (by rw [zN_eq]; omega) (by omega)
      have cR := c_RSec n3 s2 cs3 ds2 hs (by omega)
      generalize y_zN : @zN = x_zN at *
      generalize y_secN : @secN = x_secN at *
      generalize y_fewI : @fewI = x_fewI at *
      generalize y_doN : @doN = x_doN at *
      generalize y_doC : @doC = x_doC at *
      generalize y_doS : @doS = x_doS at *
      generalize y_tkC : @tkC = x_tkC at *
      (repeat' first | ((first | with_reducible refine tr_cut (fun h => ?_) (fun h => ?_) | refine aw_condj (by cbv) (fun h => ?_) (fun h => ?_)) <;> (try simp (disch := omega) only [hj, std, cmpI, cmpB, satB, Bool.not_eq_true, Bool.not_eq_false, decide_eq_true_eq, decide_eq_false_iff_not, beq_iff_eq, bne_iff_ne, bne_eq_false_iff_eq, beq_eq_false_iff_ne, ne_eq, reduceCtorEq, not_true_eq_false, not_false_eq_true, pl0, if_true, cmpS_eq, cmpS_neq, Bool.not_eq_eq_eq_not, Bool.not_true, Bool.not_false, Bool.not_eq_true', hz, add64, sub64] at h) <;> (try (exfalso; omega))) | (with_reducible refine tr_alt (fun h => ?_) ?_ <;> (try (exfalso; omega))) | (with_reducible refine tr_ob ?_ ?_) | (with_reducible refine tr_done ?_) | (refine aw_dr1 (id := 10) hj tok hm (bookI4 x_zN x_secN x_fewI x_doN x_doC x_doS x_tkC) true [(0, true), (1, true), (2, true), (3, false), (6, false), (7, false), (8, false), (4, true), (5, true), (9, true), (10, true), (11, true), (12, false), (14, false), (15, false), (16, false), (13, true), (17, true), (18, true), (19, true), (20, false), (22, false), (23, false), (24, false), (21, true), (25, true), (26, true), (27, true), (28, false), (30, false), (29, true), (31, true), (32, true), (33, true)] (by kernel_rfl) (by cbv) ?_) | (refine aw_dr (id := 10) hj tok hm (bookI4 x_zN x_secN x_fewI x_doN x_doC x_doS x_tkC) true [(0, true), (1, true), (2, true), (3, false), (6, false), (7, false), (8, false), (4, true), (5, true), (9, true), (10, true), (11, true), (12, false), (14, false), (15, false), (16, false), (13, true), (17, true), (18, true), (19, true), (20, false), (22, false), (23, false), (24, false), (21, true), (25, true), (26, true), (27, true), (28, false), (30, false), (29, true), (31, true), (32, true), (33, true)] (by kernel_rfl) (by cbv) ?_) | (refine aw_tr hj tok (bookI4 x_zN x_secN x_fewI x_doN x_doC x_doS x_tkC) (by cbv) ?_) | (refine aw_seq fun K hK => ?_) | (refine aw_tr1 hj tok (bookI4 x_zN x_secN x_fewI x_doN x_doC x_doS x_tkC) (by cbv) ?_) | (refine aw_skip ?_) | (refine aw_block ?_) | (refine aw_exit ?_) | (refine aw_ret ⟨.inr rfl, ret_okj hj (by cbv) ?_ ?_⟩) | (refine aw_ret ?_) | (with_reducible refine th_n ?_) | (with_reducible refine th_r ?_) | (with_reducible refine th_x ?_) | (with_reducible refine blk_n ?_) | (with_reducible refine blk_r ?_) | (with_reducible refine blk_x ?_) | (with_reducible refine blk_y rfl ?_) | (refine ⟨.inr rfl, ret_okj hj (by cbv) ?_ ?_⟩) | (refine ⟨.inl rfl, ret_okj hj (by cbv) ?_ ?_⟩) | ((with_reducible refine ⟨(_, _, _, _, _, _, _, _), by cbv, ?_, ?_⟩)) | ((with_reducible refine ⟨(_, _, _, _, _, _, _), by cbv, ?_, ?_⟩)) | ((with_reducible refine ⟨_, by cbv, ?_, ?_⟩)) | (with_reducible apply_assumption -symm -exfalso only [*]))
      all_goals ((try subst y_zN); (try subst y_secN); (try subst y_fewI); (try subst y_doN); (try subst y_doC); (try subst y_doS); (try subst y_tkC))
      all_goals (try (repeat' first | with_reducible exact obl0 | with_reducible refine obl1 ?_ ?_))
      all_goals (try first | with_reducible exact True.intro | (refine ob_pc hj ?_; (try rw [hj]); first | exact c_LenI _ _ _ | exact c_SafeI _ _ _ | exact c_BytesI _ _ _ hl (by omega) | exact cS | exact cR) | (refine ob_pcn hj ?_; (try rw [hj]); first | exact c_LenI _ _ _ | exact c_SafeI _ _ _ | exact c_BytesI _ _ _ hl (by omega) | exact cS | exact cR) | ((first | refine ob_le hj ?_ | refine ob_lei hj ?_ | refine ob_inb hj ?_ | refine ob_pos hj ?_ | refine ob_ne0 hj ?_ | refine ob_eqb hj ?_); (first | rfl | first | omega | (simp only [hj, std]; split <;> omega) | (simp (disch := omega) only [hj, std, cmpI, cmpB, satB, add64, sub64, ite0, pl0, pl2, pl3, sb0, if_true, if_false, eq_self] <;> omega) | (simp (disch := omega) [hj, std, cmpI, cmpB, satB, add64, sub64, ite0, pl0, pl2, pl3, sb0, if_true, if_false, eq_self] <;> omega))) | ((refine ob_isBytes hj ?_; exact hb)) | ((refine ob_vals hj ?_; exact bytes_vals hb)) | (exact rfl) | ((simp (disch := omega) only [hj, std, add64, hz]; first | omega | exact ⟨by omega, by omega, by trivial, by trivial, by trivial, hds, hs, hl, by omega, hb⟩)))
  · generalize y_zN : @zN = x_zN at *
    generalize y_secN : @secN = x_secN at *
    generalize y_fewI : @fewI = x_fewI at *
    generalize y_doN : @doN = x_doN at *
    generalize y_doC : @doC = x_doC at *
    generalize y_doS : @doS = x_doS at *
    generalize y_tkC : @tkC = x_tkC at *
    (repeat' first | ((first | with_reducible refine tr_cut (fun h => ?_) (fun h => ?_) | refine aw_condj (by cbv) (fun h => ?_) (fun h => ?_)) <;> (try simp (disch := omega) only [hj, std, cmpI, cmpB, satB, Bool.not_eq_true, Bool.not_eq_false, decide_eq_true_eq, decide_eq_false_iff_not, beq_iff_eq, bne_iff_ne, bne_eq_false_iff_eq, beq_eq_false_iff_ne, ne_eq, reduceCtorEq, not_true_eq_false, not_false_eq_true, pl0, if_true, cmpS_eq, cmpS_neq, Bool.not_eq_eq_eq_not, Bool.not_true, Bool.not_false, Bool.not_eq_true', add64, sub64] at h) <;> (try (exfalso; omega))) | (with_reducible refine tr_alt (fun h => ?_) ?_ <;> (try (exfalso; omega))) | (with_reducible refine tr_ob ?_ ?_) | (with_reducible refine tr_done ?_) | (refine aw_tr hj tok (bookI4 x_zN x_secN x_fewI x_doN x_doC x_doS x_tkC) (by cbv) ?_) | (refine aw_seq fun K hK => ?_) | (refine aw_tr1 hj tok (bookI4 x_zN x_secN x_fewI x_doN x_doC x_doS x_tkC) (by cbv) ?_) | (refine aw_skip ?_) | (refine aw_block ?_) | (refine aw_exit ?_) | (refine aw_ret ⟨.inr rfl, ret_okj hj (by cbv) ?_ ?_⟩) | (refine aw_ret ?_) | (with_reducible refine th_n ?_) | (with_reducible refine th_r ?_) | (with_reducible refine th_x ?_) | (with_reducible refine blk_n ?_) | (with_reducible refine blk_r ?_) | (with_reducible refine blk_x ?_) | (with_reducible refine blk_y rfl ?_) | (refine ⟨.inr rfl, ret_okj hj (by cbv) ?_ ?_⟩) | (refine ⟨.inl rfl, ret_okj hj (by cbv) ?_ ?_⟩) | ((with_reducible refine ⟨(_, _, _, _, _, _, _, _), by cbv, ?_, ?_⟩)) | ((with_reducible refine ⟨(_, _, _, _, _, _, _), by cbv, ?_, ?_⟩)) | ((with_reducible refine ⟨_, by cbv, ?_, ?_⟩)) | (with_reducible apply_assumption -symm -exfalso only [*]))
    all_goals ((try subst y_zN); (try subst y_secN); (try subst y_fewI); (try subst y_doN); (try subst y_doC); (try subst y_doS); (try subst y_tkC))
    all_goals (try (repeat' first | with_reducible exact obl0 | with_reducible refine obl1 ?_ ?_))
    all_goals (try first | with_reducible exact True.intro | (refine ob_pc hj ?_; (try rw [hj]); first | exact c_awake08) | (refine ob_pcn hj ?_; (try rw [hj]); first | exact c_awake08) | ((first | refine ob_le hj ?_ | refine ob_lei hj ?_ | refine ob_inb hj ?_ | refine ob_pos hj ?_ | refine ob_ne0 hj ?_ | refine ob_eqb hj ?_); (first | rfl | first | omega | (simp only [hj, std]; split <;> omega) | (simp (disch := omega) only [hj, std, cmpI, cmpB, satB, add64, sub64, ite0, pl0, pl2, pl3, sb0, if_true, if_false, eq_self] <;> omega) | (simp (disch := omega) [hj, std, cmpI, cmpB, satB, add64, sub64, ite0, pl0, pl2, pl3, sb0, if_true, if_false, eq_self] <;> omega))) | (exact rfl))
end Go.Proofs.Ytnmlcfjljeccnaa.A
/- InodePlays: the walk, as the row's step asks for it. -/
set_option linter.unusedSimpArgs false
set_option linter.unusedVariables false
set_option maxRecDepth 100000
set_option maxHeartbeats 4000000
namespace Go.Proofs.Ytnmlcfjljeccnaa.A
open Go
abbrev Ia := Int × List UInt8 × Int × List Int
def uC (l : List UInt8) : List C := l.flatMap fun b => [vU (b.toNat : Int)]
abbrev RIAct : Rd Ia := RRec4 RInt (RSl 1 1 RU8) RInt (RSl 1 8 RInt)
def iaOf (a : Ia) : List C := [vI a.1] ++ ([.sl a.2.1.length (uC a.2.1)] ++ ([vI a.2.2.1] ++ [.sl a.2.2.2.length (a.2.2.2.flatMap fun n => [vI n])]))
theorem rdc_iact : RdC RIAct iaOf := rdc_rec4 rdc_int (rdc_sl rdc_u8 (fun _ => rfl)) rdc_int (rdc_sl rdc_int (fun _ => rfl))
theorem uC_len (l : List UInt8) : (uC l).length = l.length := by
  unfold uC
  induction l with
  | nil => rfl
  | cons x l ih => rw [List.flatMap_cons, List.length_append, ih]; simp; omega
theorem uC_bytes (l : List UInt8) : isBytesC (uC l) := by
  intro c hc
  unfold uC at hc
  obtain ⟨b, _, hb⟩ := List.mem_flatMap.1 hc
  exact ⟨b, List.mem_singleton.1 hb⟩
theorem ia_at : ∀ (l : List Ia) (k : Nat) (h : k < l.length) (q : Nat), q < 4 → cellAt (l.flatMap iaOf) (k * 4 + q) = (iaOf l[k]).getD q .nil := by
  intro l
  induction l with
  | nil => intro k h; exact absurd h (by simp)
  | cons a l ih =>
    intro k h q hq
    cases k with
    | zero =>
      unfold cellAt
      rw [List.flatMap_cons, List.getD_eq_getElem?_getD, List.getElem?_append_left (by show 0 * 4 + q < 4; omega), Nat.zero_mul, Nat.zero_add, ← List.getD_eq_getElem?_getD]; rfl
    | succ k =>
      have := ih k (by simpa using h) q hq
      unfold cellAt at this ⊢
      rw [List.flatMap_cons, List.getD_eq_getElem?_getD, List.getElem?_append_right (by show 4 ≤ (k + 1) * 4 + q; omega), ← List.getD_eq_getElem?_getD]
      have e : (k + 1) * 4 + q - (iaOf a).length = k * 4 + q := by show (k + 1) * 4 + q - 4 = _; omega
      rw [e, this]; rfl
theorem ia_len (l : List Ia) : (l.flatMap iaOf).length = l.length * 4 := by
  induction l with
  | nil => rfl
  | cons x l ih => rw [List.flatMap_cons, List.length_append, ih, List.length_cons]; show 4 + _ = _; omega
end Go.Proofs.Ytnmlcfjljeccnaa.A
namespace Go.Proofs.Ytnmlcfjljeccnaa
open Go Go.RowKit
theorem inodePlays_walk (w : World) (a0 : Option Addr) (len0 cap0 : Nat) (x0 : List UInt8) (R0 : RSl 1 1 RU8 w [.slice a0 len0 cap0] x0) (a1 : Option Addr) (len1 cap1 : Nat) (x1 : List A.Ia) (R1 : RSl 4 64 A.RIAct w [.slice a1 len1 cap1] x1) :
    Calls Try.prog 4 #[.slice a0 len0 cap0, .slice a1 len1 cap1] w fun e w' => e = .returned (.bool true) ∧ Below w.heap.size w w' := by
  have hb0 := A.sl_bound' R0
  have hb1 := A.sl_bound' R1
  have hA : ∀ k, k < x1.length → ∃ kd bn bs an kn ks, A.ActAt (x1.flatMap A.iaOf) k kd bn bs an kn ks := fun k hk => by
    have hm := A.sl_mem' R1 x1[k] (List.getElem_mem hk)
    obtain ⟨cs', d0, d1, d2, d3, _, _, h1, _, h3⟩ := hm
    have k3 := A.sl_bound' h3
    have q := A.ia_at x1 k hk
    refine ⟨x1[k].1, x1[k].2.1.length, A.uC x1[k].2.1, x1[k].2.2.1, x1[k].2.2.2.length, x1[k].2.2.2.flatMap fun n => [A.vI n], ⟨by simpa [A.iaOf] using q 0 (by omega), by simpa [A.iaOf] using q 1 (by omega), by simpa [A.iaOf] using q 2 (by omega), by simpa [A.iaOf] using q 3 (by omega), A.uC_len _, A.uC_bytes _, ?_, by omega, fun r hr => ?_⟩⟩
    · rw [A.iC_flat, A.iC_len, A.nI_eq]
    · rw [A.iC_flat]; exact A.ok_iC hr
  exact A.walk_of_pc (vs := [.slice a0 len0 cap0, .slice a1 len1 cap1]) (A.pc_InodePlaysL x0.length x1.length (A.uC x0) (x1.flatMap A.iaOf) (A.uC_len x0) (A.uC_bytes x0) (by omega) (A.ia_len x1) (by omega) hA) (by simp [A.Arg.asRoot]) (fun b => b < w.heap.size) (fun _ h => h) rfl (fun i h h2 => by
    have h3 : i < 2 := h
    match i, h3 with
    | 0, _ =>
      obtain ⟨n, rfl, hc⟩ := A.arg_sl A.rdc_u8 (fun _ => rfl) R0
      exact ⟨_, rfl, hc⟩
    | 1, _ =>
      obtain ⟨n, rfl, hc⟩ := A.arg_sl A.rdc_iact (fun _ => rfl) R1
      exact ⟨_, rfl, hc⟩)
end Go.Proofs.Ytnmlcfjljeccnaa
