import Derived.Test.YtljnfejcdadjpaaLx13
import Derived.Test.YtljnfejcdadjpaaLx12
import Derived.Test.YtljnfejcdadjpaaRead
import Derived.Test.YtljnfejcdadjpaaRows
import Derived.ShutString
import Derived.ChangeOld
import Derived.Below
/- Lexing: LexNames. -/
set_option linter.unusedSimpArgs false
set_option linter.unusedVariables false
set_option maxRecDepth 100000
set_option maxHeartbeats 4000000
namespace Go.Proofs.Ytljnfejcdadjpaa.A
open Go
theorem lit_size (l : List UInt8) : (⟨⟨l⟩⟩ : ByteArray).size = l.length := rfl
def book8 (x_nameI : ByteArray → Bool) (x_termI : ByteArray → Bool) (x_lxN : ByteArray → Nat) (x_lxC : ByteArray → List C) (x_lxA : ByteArray → Int) (x_lxE : ByteArray → Int) : Book := fun f xs => match f, xs with
  | 10, [.v false [.val (.string s)]] => some (rets [(false, [.own tokTyL (x_lxN s) (x_lxC s)]), (false, [.st (vI (x_lxA s))]), (false, [.st (vI (x_lxE s))])])
  | 12, [.v false [.val (.string s)]] => some (ret1 (.st (vB (x_nameI s))))
  | 13, [.v false [.val (.string s)]] => some (ret1 (.st (vB (x_termI s))))
  | 14, [.v false [.val (.string s)]] => some (ret1 (.st (vB (x_nameI s))))
  | 15, [.v false [.val (.string s)]] => some (ret1 (.st (vB (x_termI s))))
  | 9, [] => some (ret1 (.st (vB true)))
  | _, _ => none
theorem c_Name12 {s : ByteArray} (hs : s.size ≤ 65536) : pc 12 [.v false [vS s]] (ret1 (.st (vB (nameI s)))) := ⟨enters Try.func12 (by kernel_rfl) (by kernel_rfl), pc_Name12 s (by omega)⟩
theorem c_Term12 {s : ByteArray} (hs : s.size ≤ 65536) : pc 13 [.v false [vS s]] (ret1 (.st (vB (termI s)))) := ⟨enters Try.func13 (by kernel_rfl) (by kernel_rfl), pc_Term12 s (by omega)⟩
theorem c_IsName {s : ByteArray} (hs : s.size ≤ 65536) : pc 14 [.v false [vS s]] (ret1 (.st (vB (nameI s)))) := ⟨enters Try.func14 (by kernel_rfl) (by kernel_rfl), pc_IsName s (by omega)⟩
theorem c_IsTerm {s : ByteArray} (hs : s.size ≤ 65536) : pc 15 [.v false [vS s]] (ret1 (.st (vB (termI s)))) := ⟨enters Try.func15 (by kernel_rfl) (by kernel_rfl), pc_IsTerm s (by omega)⟩
set_option maxRecDepth 100000 in
set_option maxHeartbeats 4000000 in
theorem pc_LexNames (s : ByteArray) : PC Try.prog T 5 [.v false [vS s]] (ret1 (.st (vB true))) [] := by
  refine pc_of tok Try.func5 rfl (by rfl) ?_
  obtain ⟨j, hj⟩ : ∃ j : J, j = std Try.prog T := ⟨_, rfl⟩
  have hm : Try.prog.follows .mixedOrders = true := by kernel_rfl
  generalize y_nameI : @nameI = x_nameI at *
  generalize y_termI : @termI = x_termI at *
  generalize y_lxN : @lxN = x_lxN at *
  generalize y_lxC : @lxC = x_lxC at *
  generalize y_lxA : @lxA = x_lxA at *
  generalize y_lxE : @lxE = x_lxE at *
  (repeat' first | (with_reducible refine tr_cut (fun h => ?_) (fun h => ?_) <;> (try simp (disch := omega) only [hj, std, cmpI, cmpB, satB, Bool.not_eq_true, Bool.not_eq_false, decide_eq_true_eq, decide_eq_false_iff_not, beq_iff_eq, bne_iff_ne, bne_eq_false_iff_eq, beq_eq_false_iff_ne, ne_eq, reduceCtorEq, not_true_eq_false, not_false_eq_true, pl0, if_true, cmpS_eq, cmpS_neq, Bool.not_eq_eq_eq_not, Bool.not_true, Bool.not_false, Bool.not_eq_true', add64, sub64] at h) <;> (try (exfalso; omega))) | (with_reducible refine tr_alt (fun h => ?_) ?_ <;> (try (exfalso; omega))) | (with_reducible refine tr_ob ?_ ?_) | (with_reducible refine tr_done ?_) | (refine aw_tr hj tok (book8 x_nameI x_termI x_lxN x_lxC x_lxA x_lxE) (by cbv) ?_) | (refine aw_seq fun K hK => ?_) | (refine aw_tr1 hj tok (book8 x_nameI x_termI x_lxN x_lxC x_lxA x_lxE) (by cbv) ?_) | (refine aw_condj (by cbv) (fun h => ?_) (fun h => ?_) <;> (try simp (disch := omega) only [hj, std, cmpI, cmpB, satB, Bool.not_eq_true, Bool.not_eq_false, decide_eq_true_eq, decide_eq_false_iff_not, beq_iff_eq, bne_iff_ne, bne_eq_false_iff_eq, beq_eq_false_iff_ne, ne_eq, reduceCtorEq, not_true_eq_false, not_false_eq_true, pl0, if_true, cmpS_eq, cmpS_neq, Bool.not_eq_eq_eq_not, Bool.not_true, Bool.not_false, Bool.not_eq_true', add64, sub64] at h) <;> (try (exfalso; omega))) | (refine aw_skip ?_) | (refine aw_block ?_) | (refine aw_exit ?_) | (refine aw_ret ⟨.inr rfl, ret_okj hj (by cbv) ?_ ?_⟩) | (refine aw_ret ?_) | (with_reducible refine th_n ?_) | (with_reducible refine th_r ?_) | (with_reducible refine th_x ?_) | (with_reducible refine blk_n ?_) | (with_reducible refine blk_r ?_) | (with_reducible refine blk_x ?_) | (with_reducible refine blk_y rfl ?_) | (refine ⟨.inr rfl, ret_okj hj (by cbv) ?_ ?_⟩) | (refine ⟨.inl rfl, ret_okj hj (by cbv) ?_ ?_⟩) | ((with_reducible refine ⟨(_, _, _, _, _), by cbv, ?_, ?_⟩)) | ((with_reducible refine ⟨(_, _, _, _), by cbv, ?_, ?_⟩)) | ((with_reducible refine ⟨(_, _, _), by cbv, ?_, ?_⟩)) | ((with_reducible refine ⟨(_, _), by cbv, ?_, ?_⟩)) | ((with_reducible refine ⟨_, by cbv, ?_, ?_⟩)) | (with_reducible apply_assumption -symm -exfalso only [*]))
  all_goals ((try subst y_nameI); (try subst y_termI); (try subst y_lxN); (try subst y_lxC); (try subst y_lxA); (try subst y_lxE))
  all_goals (try (have hq := ‹nameI s = true›; obtain ⟨e1, e2, e3, e4⟩ := lx_of (name_lex hq)))
  all_goals (try (have hq := ‹termI s = true›; obtain ⟨f1, f2, f3, f4⟩ := lx_of (term_lex hq)))
  all_goals (try (repeat' first | with_reducible exact obl0 | with_reducible refine obl1 ?_ ?_))
  all_goals (try first | with_reducible exact True.intro | (refine ob_pc hj ?_; (try rw [hj]); first | exact c_All (by omega) | exact c_All (q_size (by assumption)) | exact c_Name12 (by omega) | exact c_Term12 (by omega) | exact c_IsName (by omega) | exact c_IsTerm (by omega) | exact c_awake) | (refine ob_le hj ?_; (first | omega | (simp only [hj, std]; split <;> omega) | (simp (disch := omega) only [hj, std, cmpI, cmpB, satB, add64, sub64, ite0, pl0, if_true, eq_self, lit_size, List.length_cons, List.length_nil, ByteArray.size_append] <;> omega) | (simp (disch := omega) [hj, std, cmpI, cmpB, satB, add64, sub64, ite0, pl0, if_true, eq_self, lit_size, List.length_cons, List.length_nil, ByteArray.size_append] <;> omega))) | (refine ob_lei hj ?_; (first | omega | (simp only [hj, std]; split <;> omega) | (simp (disch := omega) only [hj, std, cmpI, cmpB, satB, add64, sub64, ite0, pl0, if_true, eq_self, lit_size, List.length_cons, List.length_nil, ByteArray.size_append] <;> omega) | (simp (disch := omega) [hj, std, cmpI, cmpB, satB, add64, sub64, ite0, pl0, if_true, eq_self, lit_size, List.length_cons, List.length_nil, ByteArray.size_append] <;> omega))) | (refine ob_inb hj ?_; (first | omega | (simp only [hj, std]; split <;> omega) | (simp (disch := omega) only [hj, std, cmpI, cmpB, satB, add64, sub64, ite0, pl0, if_true, eq_self, lit_size, List.length_cons, List.length_nil, ByteArray.size_append] <;> omega) | (simp (disch := omega) [hj, std, cmpI, cmpB, satB, add64, sub64, ite0, pl0, if_true, eq_self, lit_size, List.length_cons, List.length_nil, ByteArray.size_append] <;> omega))) | (refine ob_pos hj ?_; (first | omega | (simp only [hj, std]; split <;> omega) | (simp (disch := omega) only [hj, std, cmpI, cmpB, satB, add64, sub64, ite0, pl0, if_true, eq_self, lit_size, List.length_cons, List.length_nil, ByteArray.size_append] <;> omega) | (simp (disch := omega) [hj, std, cmpI, cmpB, satB, add64, sub64, ite0, pl0, if_true, eq_self, lit_size, List.length_cons, List.length_nil, ByteArray.size_append] <;> omega))) | (refine ob_ne0 hj ?_; (first | omega | (simp only [hj, std]; split <;> omega) | (simp (disch := omega) only [hj, std, cmpI, cmpB, satB, add64, sub64, ite0, pl0, if_true, eq_self, lit_size, List.length_cons, List.length_nil, ByteArray.size_append] <;> omega) | (simp (disch := omega) [hj, std, cmpI, cmpB, satB, add64, sub64, ite0, pl0, if_true, eq_self, lit_size, List.length_cons, List.length_nil, ByteArray.size_append] <;> omega))) | (refine ob_eqb hj ?_; (first | rfl | first | omega | (simp only [hj, std]; split <;> omega) | (simp (disch := omega) only [hj, std, cmpI, cmpB, satB, add64, sub64, ite0, pl0, if_true, eq_self, lit_size, List.length_cons, List.length_nil, ByteArray.size_append] <;> omega) | (simp (disch := omega) [hj, std, cmpI, cmpB, satB, add64, sub64, ite0, pl0, if_true, eq_self, lit_size, List.length_cons, List.length_nil, ByteArray.size_append] <;> omega))) | ((refine ob_vals hj ?_; exact lxC_vals _)) | ((refine ob_le hj ?_; simp only [hj, std, lit_size, List.length_cons, List.length_nil, ByteArray.size_append]; omega)) | (exact rfl) | ((exfalso; have q := ‹¬ lxE s = 0›; exact q e4)) | ((exfalso; have q := ‹¬ ((lxN s : Nat) : Int) = 1›; rw [e1] at q; exact q rfl)) | ((exfalso; have q := ‹¬ gi (cellAt (lxC s) _) = _›; rw [e2] at q; exact q rfl)) | ((exfalso; have q := ‹¬ gs (cellAt (lxC s) _) = _›; rw [e2] at q; exact q rfl)) | ((exfalso; have q := ‹¬ lxE _ = 0›; exact q f4)) | ((exfalso; have q := ‹¬ ((lxN _ : Nat) : Int) = 1›; rw [f1] at q; exact q rfl)) | ((exfalso; have q := ‹¬ gi (cellAt (lxC _) _) = _›; rw [f2] at q; exact q rfl)) | ((exfalso; have q := ‹¬ gs (cellAt (lxC _) _) = _›; rw [f2] at q; exact q rfl)) | ((refine ob_le hj ?_; simp only [hj, std, ite0, lxC_len, e1]; simp; done)) | ((refine ob_le hj ?_; simp only [hj, std, ite0, lxC_len, f1]; simp; done)) | ((refine ob_ok hj ?_; simp only [hj, std, ite0, e2]; exact ⟨_, rfl⟩)) | ((refine ob_ok hj ?_; simp only [hj, std, ite0, f2]; exact ⟨_, rfl⟩)))
end Go.Proofs.Ytljnfejcdadjpaa.A

/- LexNames: the walk, as the row's step asks for it. -/
set_option linter.unusedSimpArgs false
set_option linter.unusedVariables false
set_option maxRecDepth 100000
set_option maxHeartbeats 4000000
namespace Go.Proofs.Ytljnfejcdadjpaa
open Go Go.RowKit
theorem lexNames_walk (w : World) (s : ByteArray) (_ : s.size ≤ 140737488351232) : Calls Try.prog 5 #[.string s] w fun e w' => e = .returned (.bool true) ∧ Below w.heap.size w w' :=
  A.walk_of_pc (vs := [.string s]) (A.pc_LexNames s) (by simp [A.Arg.asRoot]) (fun _ => False) (fun _ h => h.elim) rfl (fun i h h2 => by
    have h3 : i < 1 := h
    obtain rfl : i = 0 := by omega
    exact ⟨_, rfl, .val rfl⟩)
end Go.Proofs.Ytljnfejcdadjpaa

/-
  LexNames: IsName and IsTerm return the specified values, and such a text, as it is written, is a single token.
  No condition: for every input that can be read as data the law returns true and each argument reads as it did.
-/
set_option linter.unusedSimpArgs false
set_option linter.unusedVariables false
set_option maxRecDepth 100000
set_option maxHeartbeats 4000000
namespace Go.Proofs.Ytljnfejcdadjpaa.lexNames
open Go.ChangeShapes Go.WideShapes Go.ChangeAt Go.RowKit
set_option linter.unusedVariables false

theorem own : ownKnob Try.prog.godebug = none := by kernel_rfl
theorem laidOut : laidOutB Try.prog = true := by kernel_rfl

theorem weights_of {H : Type} {P : Program} {ts : List TypeId} {ds : List (DataW H)} (h : (DataW.weightsEach P ts ds).all (· ≤ reachBytes) = true) {j : Nat} {t : TypeId} {d : DataW H} (ht : ts[j]? = some t) (hd : ds[j]? = some d) : (d.weights P t).all (· ≤ reachBytes) = true :=
  List.all_eq_true.2 fun n hn => List.all_eq_true.1 h n (DataW.weights_mem_each ht hd n hn)

set_option maxRecDepth 100000 in
theorem lifted (os : Os) (started : os.Started) (H : Type) (enc : TypeId × Value → H) :
    ReturnsInHanded {} Try.checked os 5 .any (Rows.lexNamesSpec.pre6 enc Try.prog Try.f5 Rows.lexNamesRow.domain false) (Rows.lexNamesSpec.post enc Try.prog Try.f5 false true false false) := by
  refine returnsInHanded_of_change_sized (C := Try.checked) own started (by kernel_rfl) Try.func5
    (ChangeSpec.witness6 (enc := enc) (C := Try.checked) false ⟨#[], #[.string ByteArray.empty], []⟩ 8 (by kernel_rfl) (by kernel_rfl) (by kernel_rfl) (by kernel_rfl)) ?_
  intro W base args ds gs before hval0 hW _ hsz0 _
  have hsz : (DataW.weightsEach Try.prog (Try.f5.params.toList ++ Rows.lexNamesSpec.plain.varTypes Try.prog) (ds ++ gs)).all (· ≤ reachBytes) = true := hsz0
  have hval : ∀ (j : Nat) t v, Try.f5.params[j]? = some t → args[j]? = some v → Value.okWide Try.prog W .any base t v := hval0
  have hW' := hW
  obtain ⟨p, q, hA0, hV, rfl, _, _⟩ := hW
  have hA : DataW.TrodAll enc Try.prog W 0 (fun _ => true) true Try.f5.params.toList args.toList ds p := hA0
  rw [Try.params5] at hA hval hsz
  obtain ⟨v0, vs0, d0, ds0, p0, q0, hargs, rfl, rfl, h0, r0⟩ := trodAll_cons hA
  obtain ⟨rfl, rfl, rfl⟩ := trodAll_nil r0
  obtain rfl : args = #[v0] := by cases args; simp_all
  obtain ⟨rfl, rfl⟩ := trodVars_none hV
  clear hA0 hval0 hsz0
  have lt0 : ∀ x ∈ p0, x.block < W.heap.size := by obtain ⟨m, hm⟩ := h0; exact DataW.trod_lt m _ _ _ hm
  obtain ⟨x0, R0⟩ : ∃ x, (RStr) W v0.cells.toList x := by obtain ⟨fuel, hf⟩ := h0; exact (lk_str Try.underlying9 : Lk enc Try.prog W 9 (RStr)) _ _ _ hf (weights_of hsz (j := 0) (t := 9) rfl rfl)
  obtain ⟨a0, rfl⟩ := okWide_string Try.underlying9 (hval 0 9 v0 rfl rfl)
  obtain ⟨e0, b0⟩ := R0
  obtain rfl : a0 = x0 := by simpa [Value.cells] using e0
  refine (lexNames_walk W a0 b0).mono fun e W' ⟨he, bel⟩ => ?_
  subst he
  exact ⟨_, rfl, _, _, _, [], _, [], hW', trodAll_mk1 (shut_bool Try.underlying4 _), (trodAll_cons_mk (Below.trod laidOut (by kernel_rfl) (of_decide_eq_true (by kernel_rfl)) h0 bel lt0) trodAll_mk0), rfl, bel.frame _, fun h => by cases h⟩

theorem over : Rows.lexNamesRow.holds Try.pinned (OpenSpec.ofChange Rows.lexNamesSpec) :=
  OpenClaim.holds_of_wide 5 Try.f5 rfl rfl rfl rfl rfl rfl rfl ⟨rfl, rfl, rfl, rfl, rfl⟩ rfl rfl rfl rfl rfl (by kernel_rfl) Try.func5 (by kernel_rfl)
    (of_decide_eq_true (by kernel_rfl)) (by unfold Func.isWrapper; first | (rw [if_pos (by decide +kernel)]; kernel_rfl) | (rw [if_neg (by decide +kernel)]; exact ⟨rfl, rfl⟩))
    (fun os started H enc _ => lifted os started H enc)

end Go.Proofs.Ytljnfejcdadjpaa.lexNames
namespace Go.Proofs.Ytljnfejcdadjpaa
theorem lexNames_holds : Rows.LexNamesSaid := lexNames.over
#print axioms lexNames_holds
end Go.Proofs.Ytljnfejcdadjpaa
