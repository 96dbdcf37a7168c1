/- What GramBounds needs beyond, part 1. -/
import Derived.Test.YtgimfjmigoibgaaMz5
import Derived.ProofKit
import Derived.OpenShut
import Derived.SizedLaws
import Derived.Deep.Slices
import Derived.Deep.Strs
/- From the model's reading of an argument to plain predicates on worlds: a reading relation a type, put together from parts. No program in sight. -/
set_option linter.unusedSimpArgs false
set_option linter.unusedVariables false
set_option maxRecDepth 100000
set_option maxHeartbeats 4000000
namespace Go.Proofs.Ytgimfjmigoibgaa
open Go.RowKit Go.ChangeShapes Go.WideShapes Go.ChangeAt
def RInt : Rd Int := fun _ cs n => cs = [.int .i64 n] ∧ -9223372036854775808 ≤ n ∧ n ≤ 9223372036854775807
/-! ### from the model's reading -/
section
variable {H : Type} {enc : TypeId × Value → H} {P : Program} {w : World}
theorem lk_int {t : TypeId} (ht : P.underlying t = some (.int .i64)) : Lk enc P w t RInt := by
  intro fuel cs x h _
  obtain ⟨n, rfl, _, hw⟩ := DataW.trod_int ht h
  refine ⟨n, rfl, ?_⟩
  simpa [Lit.wf, IntKind.min, IntKind.max, IntKind.signed, IntKind.bits] using hw
end
end Go.Proofs.Ytgimfjmigoibgaa
/- The ghost machine: a nil slice is an empty one, too; contracts at such arguments. -/
set_option linter.unusedSimpArgs false
set_option linter.unusedVariables false
set_option maxRecDepth 100000
set_option maxHeartbeats 4000000
namespace Go.Proofs.Ytgimfjmigoibgaa.A
open Go
theorem pc_le {P : Program} {T : TT} {f : FuncId} {x y : List Arg} {ret : RV} {upd : List Root} (h : PC P T f y ret upd) (hl : LeAs x y) : PC P T f x ret upd := by
  intro w S bx ph vs hh hv ha
  rw [hl.roots] at hh ⊢
  exact h w S bx ph vs hh (hv.trans hl.reals) fun i h1 h2 => (hl.at i (by rw [hl.len]; exact h1) h1).rep (ha i (by rw [hl.len]; exact h1) h2)
end Go.Proofs.Ytgimfjmigoibgaa.A
/- Grammars: texts of which no two are alike; a nonterminal's rules. -/
set_option linter.unusedSimpArgs false
set_option linter.unusedVariables false
set_option maxRecDepth 100000
set_option maxHeartbeats 4000000
namespace Go.Proofs.Ytgimfjmigoibgaa.A
open Go
theorem dst_iff {p : ByteArray → Bool} {l : List ByteArray} : dstS p l = true ↔ (∀ s ∈ l, p s = true) ∧ l.Nodup := by unfold dstS; rw [decide_eq_true_eq]
end Go.Proofs.Ytgimfjmigoibgaa.A
/- Grammars at their limits: the plain law. -/
set_option linter.unusedSimpArgs false
set_option linter.unusedVariables false
set_option maxRecDepth 100000
set_option maxHeartbeats 4000000
namespace Go.Proofs.Ytgimfjmigoibgaa.A
open Go
def bndNm (i : Nat) : ByteArray := ⟨#[110, UInt8.ofNat (97 + i / 26), UInt8.ofNat (97 + i % 26)]⟩
def bndNs (n : Nat) : List ByteArray := (List.range n).map bndNm
def bndTs : List ByteArray := [⟨#[97]⟩]
def bndR0 (n : Nat) : List Rl := (List.range n).map fun i : Nat => ((i : Int), [])
def bndR1 (right m : Nat) : List Rl := (List.range m).map fun i : Nat => (0, List.replicate (min (i + 1) right) (-1))
def bndRs (n m right : Nat) : List Rl := bndR0 n ++ bndR1 right m
def bndW (n m right : Nat) : Bool := decide (n + 1 ≤ 256 ∧ ¬ (0 < m ∧ right = 0 ∨ right < m ∨ 64 < m ∧ 64 < right))
theorem bnd_names : ((bndNs 260).all nameI && decide (bndNs 260).Nodup) = true := by decide +kernel
theorem bnd_sub {n : Nat} (h : n ≤ 260) : (bndNs n).Sublist (bndNs 260) := (List.range_sublist.2 h).map _
theorem bnd_dst {n : Nat} (h : n ≤ 260) : dstS nameI (bndNs n) = true := by
  have hb := bnd_names
  rw [Bool.and_eq_true, decide_eq_true_eq, List.all_eq_true] at hb
  exact dst_iff.2 ⟨fun s hs => hb.1 s ((bnd_sub h).subset hs), hb.2.sublist (bnd_sub h)⟩
theorem bnd_dstT : dstS termI bndTs = true := by decide +kernel
theorem bnd_nS (n : Nat) : nS (bndNs n) = n := by rw [nS_eq]; simp [bndNs]
theorem bnd_nR (n m right : Nat) : nR (bndRs n m right) = n + m := by rw [nR_eq]; simp [bndRs, bndR0, bndR1]
theorem bnd_mem0 {n : Nat} {r : Rl} : r ∈ bndR0 n ↔ ∃ i : Nat, i < n ∧ r = ((i : Int), []) := by
  unfold bndR0; rw [List.mem_map]
  exact ⟨fun ⟨i, h1, h2⟩ => ⟨i, List.mem_range.1 h1, h2.symm⟩, fun ⟨i, h1, h2⟩ => ⟨i, List.mem_range.2 h1, h2.symm⟩⟩
theorem bnd_mem1 {m right : Nat} {r : Rl} : r ∈ bndR1 right m ↔ ∃ i : Nat, i < m ∧ r = (0, List.replicate (min (i + 1) right) (-1)) := by
  unfold bndR1; rw [List.mem_map]
  exact ⟨fun ⟨i, h1, h2⟩ => ⟨i, List.mem_range.1 h1, h2.symm⟩, fun ⟨i, h1, h2⟩ => ⟨i, List.mem_range.2 h1, h2.symm⟩⟩
theorem bnd_law {n m right : Nat} (h1 : 1 ≤ n) (h2 : n ≤ 260) (h3 : m ≤ 70) (h4 : right ≤ 70) : validG (bndNs n) bndTs (bndRs n m right) = bndW n m right := by
  have ht : nS bndTs = 1 := rfl
  have key : validG (bndNs n) bndTs (bndRs n m right) = true ↔ (n + 1 ≤ 256 ∧ ¬ (0 < m ∧ right = 0 ∨ right < m ∨ 64 < m ∧ 64 < right)) := by
    rw [validG_iff, bnd_nS, ht, bnd_nR]
    constructor
    · rintro ⟨⟨_, g1, _⟩, _, _, g2, _, g3⟩
      refine ⟨g1, ?_⟩
      unfold dupR at g3; rw [decide_eq_false_iff_not, Decidable.not_not] at g3
      rintro (⟨a, b⟩ | a | ⟨a, b⟩)
      · subst b
        unfold bndRs at g3
        rw [List.nodup_append] at g3
        exact g3.2.2 (0, []) (bnd_mem0.2 ⟨0, by omega, rfl⟩) (0, []) (bnd_mem1.2 ⟨0, a, by simp⟩) rfl
      · by_cases hr : right = 0
        · subst hr
          unfold bndRs at g3
          rw [List.nodup_append] at g3
          exact g3.2.2 (0, []) (bnd_mem0.2 ⟨0, by omega, rfl⟩) (0, []) (bnd_mem1.2 ⟨0, a, by simp⟩) rfl
        · unfold bndRs at g3
          rw [List.nodup_append] at g3
          have hl : (bndR1 right m).length = m := by simp [bndR1]
          have := List.pairwise_iff_getElem.1 g3.2.1 (right - 1) right (by omega) (by omega) (by omega)
          refine this ?_
          simp only [bndR1, List.getElem_map, List.getElem_range]
          rw [show min (right - 1 + 1) right = min (right + 1) right by omega]
      · have := g2 (0, List.replicate (min (64 + 1) right) (-1)) (List.mem_append_right _ (bnd_mem1.2 ⟨64, a, rfl⟩))
        unfold fitR at this
        rw [Bool.and_eq_true, decide_eq_true_eq, nI_eq, List.length_replicate] at this
        omega
    · rintro ⟨g1, g2⟩
      have g3 : ¬ (0 < m ∧ right = 0) := fun q => g2 (.inl q)
      have g4 : m ≤ right := by
        by_cases q : m ≤ right
        · exact q
        · exact absurd (.inr (.inl (by omega))) g2
      have g5 : ¬ (64 < m ∧ 64 < right) := fun q => g2 (.inr (.inr q))
      refine ⟨⟨h1, g1, by omega⟩, bnd_dst h2, bnd_dstT, fun r hr => ?_, fun i hi => ⟨((i : Int), []), List.mem_append_left _ (bnd_mem0.2 ⟨i, hi, rfl⟩), rfl⟩, ?_⟩
      · rcases List.mem_append.1 hr with q | q
        · obtain ⟨i, hi, rfl⟩ := bnd_mem0.1 q
          exact fit_yes (l := []) (n := n) (t := 1) (x := (i : Int)) ⟨by omega, by omega, by decide⟩
        · obtain ⟨i, hi, rfl⟩ := bnd_mem1.1 q
          rw [fit_yes (n := n) (t := 1) ⟨by omega, by omega, by rw [nI_eq, List.length_replicate]; omega⟩]
          have : hasB n 1 (List.replicate (min (i + 1) right) (-1)) = false := by
            unfold hasB; rw [List.any_eq_false]
            intro x hx
            obtain rfl := (List.mem_replicate.1 hx).2
            unfold badI; rw [decide_eq_true_eq]; omega
          rw [this]; rfl
      · unfold dupR; rw [decide_eq_false_iff_not, Decidable.not_not]
        unfold bndRs
        rw [List.nodup_append]
        refine ⟨?_, ?_, ?_⟩
        · refine List.pairwise_iff_getElem.2 fun i k hi hk hik => ?_
          simp only [bndR0, List.getElem_map, List.getElem_range]
          intro e
          have := congrArg Prod.fst e
          dsimp only at this
          omega
        · refine List.pairwise_iff_getElem.2 fun i k hi hk hik => ?_
          have hl : (bndR1 right m).length = m := by simp [bndR1]
          simp only [bndR1, List.getElem_map, List.getElem_range]
          intro e
          have := congrArg (fun r : Rl => r.2.length) e
          simp only [List.length_replicate] at this
          omega
        · intro a ha b hb e
          obtain ⟨i, hi, rfl⟩ := bnd_mem0.1 ha
          obtain ⟨k, hk, rfl⟩ := bnd_mem1.1 hb
          have := congrArg (fun r : Rl => r.2.length) e
          simp only [List.length_replicate, List.length_nil] at this
          omega
  rw [Bool.eq_iff_iff, key]
  unfold bndW; rw [decide_eq_true_eq]
end Go.Proofs.Ytgimfjmigoibgaa.A
/- The law GramBounds. -/
set_option linter.unusedSimpArgs false
set_option linter.unusedVariables false
set_option maxRecDepth 100000
set_option maxHeartbeats 4000000
namespace Go.Proofs.Ytgimfjmigoibgaa.A
open Go
theorem bndNs_succ (n : Nat) : bndNs (n + 1) = bndNs n ++ [bndNm n] := by unfold bndNs; rw [List.range_succ, List.map_append]; rfl
theorem bndR0_succ (n : Nat) : bndR0 (n + 1) = bndR0 n ++ [((n : Int), [])] := by unfold bndR0; rw [List.range_succ, List.map_append]; rfl
theorem bndR1_succ (right n : Nat) : bndR1 right (n + 1) = bndR1 right n ++ [(0, List.replicate (min (n + 1) right) (-1))] := by unfold bndR1; rw [List.range_succ, List.map_append]; rfl
theorem bndR0_len (n : Nat) : nR (bndR0 n) = n := by rw [nR_eq]; simp [bndR0]
theorem bnd_sml {n m right : Nat} (h2 : n ≤ 260) (h3 : m ≤ 70) (h4 : right ≤ 70) : Sml (bndNs n) bndTs (bndRs n m right) := by
  refine ⟨by rw [bnd_nS]; omega, by decide, by rw [bnd_nR]; omega, fun r hr => ?_, fun s hs => ?_, fun s hs => ?_⟩
  · rcases List.mem_append.1 hr with q | q
    · obtain ⟨i, hi, rfl⟩ := bnd_mem0.1 q; show 0 ≤ 1000000; omega
    · obtain ⟨i, hi, rfl⟩ := bnd_mem1.1 q; rw [nI_eq, List.length_replicate]; omega
  · unfold bndNs at hs
    obtain ⟨i, hi, rfl⟩ := List.mem_map.1 hs
    show 3 ≤ 1000000; omega
  · unfold bndTs at hs
    obtain rfl := List.mem_singleton.1 hs
    decide
def nmA (i : Int) : C := .val (.int .u8 (IntKind.wrap .u8 (arithI .add .i64 97 (arithI .quo .i64 i 26))))
def nmB (i : Int) : C := .val (.int .u8 (IntKind.wrap .u8 (arithI .add .i64 97 (arithI .rem .i64 i 26))))
theorem nm_byte {i : Int} (h0 : 0 ≤ i) (h : i < 260) : (⟨#[110]⟩ : ByteArray) ++ bytesC [nmA i, nmB i] = bndNm i.toNat := by
  have : ∀ n : Fin 260, (⟨#[110]⟩ : ByteArray) ++ bytesC [nmA (n.val : Int), nmB (n.val : Int)] = bndNm n.val := by decide +kernel
  have h1 := this ⟨i.toNat, by omega⟩
  rwa [show ((i.toNat : Nat) : Int) = i by omega] at h1
theorem nm_isb {i : Int} (h0 : 0 ≤ i) (h : i < 260) : isBytesC [nmA i, nmB i] := by
  have : ∀ n : Fin 260, IntKind.wrap .u8 (arithI .add .i64 97 (arithI .quo .i64 (n.val : Int) 26)) = ((UInt8.ofNat (97 + n.val / 26)).toNat : Int) ∧ IntKind.wrap .u8 (arithI .add .i64 97 (arithI .rem .i64 (n.val : Int) 26)) = ((UInt8.ofNat (97 + n.val % 26)).toNat : Int) := by decide +kernel
  obtain ⟨h1, h2⟩ := this ⟨i.toNat, by omega⟩
  dsimp only at h1 h2
  rw [show ((i.toNat : Nat) : Int) = i by omega] at h1 h2
  intro c hc
  rcases List.mem_cons.1 hc with rfl | hc
  · exact ⟨_, by unfold nmA; rw [h1]⟩
  · obtain rfl := List.mem_singleton.1 hc
    exact ⟨_, by unfold nmB; rw [h2]⟩
def bookGb (W : Bool) : Book := fun f xs => match f, xs with
  | 14, [] => some (ret1 (.st (vB true)))
  | 15, [.v true [.sl _ _, .sl _ _, .sl _ _]] => some (ret1 (.st (vB W)))
  | _, _ => none
theorem pc_GramBoundsL (n m right : Int) : PC Try.prog T 5 [.v false [vI n], .v false [vI m], .v false [vI right]] (ret1 (.st (vB true))) [] := by
  refine pc_of tok Try.func5 rfl (by rfl) ?_
  obtain ⟨j, hj⟩ : ∃ j : J, j = std Try.prog T := ⟨_, rfl⟩
  have hm : Try.prog.follows .mixedOrders = true := by kernel_rfl
  generalize y_rC : @rC = x_rC at *
  generalize y_nR : @nR = x_nR at *
  generalize y_validG : @validG = x_validG at *
  generalize y_sC : @sC = x_sC at *
  generalize y_iC : @iC = x_iC at *
  generalize y_nS : @nS = x_nS at *
  generalize y_nI : @nI = x_nI at *
  (repeat' first | ((first | with_reducible refine tr_cut (fun h => ?_) (fun h => ?_) | refine aw_condj (by cbv) (fun h => ?_) (fun h => ?_)) <;> (try simp (disch := omega) only [hj, std, cmpI, cmpB, satB, Bool.not_eq_true, Bool.not_eq_false, decide_eq_true_eq, decide_eq_false_iff_not, beq_iff_eq, bne_iff_ne, bne_eq_false_iff_eq, beq_eq_false_iff_ne, ne_eq, reduceCtorEq, not_true_eq_false, not_false_eq_true, pl0, if_true, cmpS_eq, cmpS_neq, Bool.not_eq_eq_eq_not, Bool.not_true, Bool.not_false, Bool.not_eq_true', add64, sub64] at h) <;> (try (exfalso; omega))) | (with_reducible refine tr_alt (fun h => ?_) ?_ <;> (try (exfalso; omega))) | (with_reducible refine tr_ob ?_ ?_) | (with_reducible refine tr_done ?_) | (refine aw_tr hj tok (bookGb true) (by cbv) ?_) | (refine aw_seq fun K hK => ?_) | (refine aw_tr1 hj tok (bookGb true) (by cbv) ?_) | (refine aw_skip ?_) | (refine aw_block ?_) | (refine aw_exit ?_) | (refine aw_ret ⟨.inr rfl, ret_okj hj (by cbv) ?_ ?_⟩) | (refine aw_ret ?_) | (with_reducible refine th_n ?_) | (with_reducible refine th_r ?_) | (with_reducible refine th_x ?_) | (with_reducible refine blk_n ?_) | (with_reducible refine blk_r ?_) | (with_reducible refine blk_x ?_) | (with_reducible refine blk_y rfl ?_) | (refine ⟨.inr rfl, ret_okj hj (by cbv) ?_ ?_⟩) | (refine ⟨.inl rfl, ret_okj hj (by cbv) ?_ ?_⟩) | ((with_reducible refine ⟨(_, _, _, _, _), by cbv, ?_, ?_⟩)) | ((with_reducible refine ⟨(_, _, _), by cbv, ?_, ?_⟩)) | ((with_reducible refine ⟨_, by cbv, ?_, ?_⟩)) | (with_reducible apply_assumption -symm -exfalso only [*]))
  all_goals ((try subst y_rC); (try subst y_nR); (try subst y_validG); (try subst y_sC); (try subst y_iC); (try subst y_nS); (try subst y_nI))
  all_goals (try (repeat' first | with_reducible exact obl0 | with_reducible refine obl1 ?_ ?_))
  all_goals (try first | with_reducible exact True.intro | (refine ob_pc hj ?_; (try rw [hj]); first | exact c_awake14) | (refine ob_pcn hj ?_; (try rw [hj]); first | exact c_awake14) | ((first | refine ob_le hj ?_ | refine ob_lei hj ?_ | refine ob_inb hj ?_ | refine ob_pos hj ?_ | refine ob_ne0 hj ?_ | refine ob_eqb hj ?_); (first | rfl | first | omega | (simp only [hj, std]; split <;> omega) | (simp (disch := omega) only [hj, std, cmpI, cmpB, satB, add64, sub64, ite0, pl0, pl2, pl3, sb0, if_true, if_false, eq_self] <;> omega) | (simp (disch := omega) [hj, std, cmpI, cmpB, satB, add64, sub64, ite0, pl0, pl2, pl3, sb0, if_true, if_false, eq_self] <;> omega))) | (exact rfl))
  obtain ⟨N, hN⟩ : ∃ N : Nat, n = N := ⟨n.toNat, by omega⟩
  obtain ⟨M, hM⟩ : ∃ M : Nat, m = M := ⟨m.toNat, by omega⟩
  obtain ⟨R, hR⟩ : ∃ R : Nat, right = R := ⟨right.toNat, by omega⟩
  refine aw_lpj hj [(0, .keep), (1, .keep), (2, .keep), (7, .keep), (8, .keep), (7, .box 0 strG), (7, .box 2 ruleTy)] [7] (fun (⟨i, un, uc, rn, rc⟩ : Int × Nat × (List C) × Nat × (List C)) => stOf 122 [(0, .one (.c (vI n))), (1, .one (.c (vI m))), (2, .one (.c (vI right))), (7, .one (.ptr 7 0)), (8, .one (.c (vI i)))] [(7, .box [.own strG un uc, .own strG 1 [vS ⟨#[97]⟩], .own ruleTy rn rc])]) (fun (⟨i, un, uc, rn, rc⟩ : Int × Nat × (List C) × Nat × (List C)) => N - i.toNat) (fun (⟨i, un, uc, rn, rc⟩ : Int × Nat × (List C) × Nat × (List C)) => 0 ≤ i ∧ i ≤ n ∧ un = nS (bndNs i.toNat) ∧ uc = sC (bndNs i.toNat) ∧ rn = nR (bndR0 i.toNat) ∧ LeCs rc (rC (bndR0 i.toNat))) ((0, 0, [], 0, [])) (by generalize @rC = x_rC; generalize @nR = x_nR; generalize @validG = x_validG; generalize @sC = x_sC; generalize @iC = x_iC; generalize @nS = x_nS; generalize @nI = x_nI; cbv) ?_ (fun ⟨i, un, uc, rn, rc⟩ hI => ?_)
  · exact ⟨by omega, by omega, rfl, rfl, rfl, LeCs.refl _⟩
  obtain ⟨i1, i2, hun, huc, hrn, hrc⟩ := hI
  have u1 : un = i.toNat := by rw [hun, bnd_nS]
  have u2 : rn = i.toNat := by rw [hrn, bndR0_len]
  rcases Decidable.em (i < n) with hi | hi
  · have k1 := nm_byte i1 (show i < 260 by omega)
    have k2 := nm_isb i1 (show i < 260 by omega)
    have e0 : (i + 1).toNat = i.toNat + 1 := by omega
    have z1 : nS (bndNs (i.toNat + 1)) = un + 1 := by rw [bnd_nS, u1]
    have z2 : sC (bndNs (i.toNat + 1)) = uc ++ [vS ((⟨#[110]⟩ : ByteArray) ++ bytesC [nmA i, nmB i])] := by rw [bndNs_succ, ← sC_snoc, huc, k1]
    have z3 : nR (bndR0 (i.toNat + 1)) = rn + 1 := by rw [bndR0_len, u2]
    have z4 : LeCs (rc ++ [vI i, .nil]) (rC (bndR0 (i.toNat + 1))) := by
      rw [bndR0_succ, ← rC_snoc, show ((i.toNat : Nat) : Int) = i by omega]
      exact hrc.app (.cons .refl (.cons .nil (LeCs.refl [])))
    generalize y_rC : @rC = x_rC at *
    generalize y_nR : @nR = x_nR at *
    generalize y_validG : @validG = x_validG at *
    generalize y_sC : @sC = x_sC at *
    generalize y_iC : @iC = x_iC at *
    generalize y_nS : @nS = x_nS at *
    generalize y_nI : @nI = x_nI at *
    (repeat' first | ((first | with_reducible refine tr_cut (fun h => ?_) (fun h => ?_) | refine aw_condj (by cbv) (fun h => ?_) (fun h => ?_)) <;> (try simp (disch := omega) only [hj, std, cmpI, cmpB, satB, Bool.not_eq_true, Bool.not_eq_false, decide_eq_true_eq, decide_eq_false_iff_not, beq_iff_eq, bne_iff_ne, bne_eq_false_iff_eq, beq_eq_false_iff_ne, ne_eq, reduceCtorEq, not_true_eq_false, not_false_eq_true, pl0, if_true, cmpS_eq, cmpS_neq, Bool.not_eq_eq_eq_not, Bool.not_true, Bool.not_false, Bool.not_eq_true', add64, sub64] at h) <;> (try (exfalso; omega))) | (with_reducible refine tr_alt (fun h => ?_) ?_ <;> (try (exfalso; omega))) | (with_reducible refine tr_ob ?_ ?_) | (with_reducible refine tr_done ?_) | (refine aw_tr hj tok (bookGb true) (by cbv) ?_) | (refine aw_seq fun K hK => ?_) | (refine aw_tr1 hj tok (bookGb true) (by cbv) ?_) | (refine aw_skip ?_) | (refine aw_block ?_) | (refine aw_exit ?_) | (refine aw_ret ⟨.inr rfl, ret_okj hj (by cbv) ?_ ?_⟩) | (refine aw_ret ?_) | (with_reducible refine th_n ?_) | (with_reducible refine th_r ?_) | (with_reducible refine th_x ?_) | (with_reducible refine blk_n ?_) | (with_reducible refine blk_r ?_) | (with_reducible refine blk_x ?_) | (with_reducible refine blk_y rfl ?_) | (refine ⟨.inr rfl, ret_okj hj (by cbv) ?_ ?_⟩) | (refine ⟨.inl rfl, ret_okj hj (by cbv) ?_ ?_⟩) | ((with_reducible refine ⟨(_, _, _, _, _), by cbv, ?_, ?_⟩)) | ((with_reducible refine ⟨(_, _, _), by cbv, ?_, ?_⟩)) | ((with_reducible refine ⟨_, by cbv, ?_, ?_⟩)) | (with_reducible apply_assumption -symm -exfalso only [*]))
    all_goals ((try subst y_rC); (try subst y_nR); (try subst y_validG); (try subst y_sC); (try subst y_iC); (try subst y_nS); (try subst y_nI))
    all_goals (try (repeat' first | with_reducible exact obl0 | with_reducible refine obl1 ?_ ?_))
    all_goals (try first | with_reducible exact True.intro | ((first | refine ob_le hj ?_ | refine ob_lei hj ?_ | refine ob_inb hj ?_ | refine ob_pos hj ?_ | refine ob_ne0 hj ?_ | refine ob_eqb hj ?_); (first | rfl | first | omega | (simp only [hj, std]; split <;> omega) | (simp (disch := omega) only [hj, std, cmpI, cmpB, satB, add64, sub64, ite0, pl0, pl2, pl3, sb0, if_true, if_false, eq_self] <;> omega) | (simp (disch := omega) [hj, std, cmpI, cmpB, satB, add64, sub64, ite0, pl0, pl2, pl3, sb0, if_true, if_false, eq_self] <;> omega))) | ((rw [hj]; exact k2)) | ((rw [hj]; exact (show 1 + 2 ≤ 9223372036854775807 by omega))) | ((simp (disch := omega) only [hj, std, add64, ite0]; first | omega | (refine ⟨by omega, by omega, by rw [e0, z1], ?_, by rw [e0, z3], ?_⟩; (rw [e0]; exact z2.symm); (rw [e0]; exact z4)))))
  · have iN : i.toNat = N := by omega
    rw [iN] at hun huc hrn hrc
    clear i1 i2 hi
    generalize y_rC : @rC = x_rC at *
    generalize y_nR : @nR = x_nR at *
    generalize y_validG : @validG = x_validG at *
    generalize y_sC : @sC = x_sC at *
    generalize y_iC : @iC = x_iC at *
    generalize y_nS : @nS = x_nS at *
    generalize y_nI : @nI = x_nI at *
    (repeat' first | ((first | with_reducible refine tr_cut (fun h => ?_) (fun h => ?_) | refine aw_condj (by cbv) (fun h => ?_) (fun h => ?_)) <;> (try simp (disch := omega) only [hj, std, cmpI, cmpB, satB, Bool.not_eq_true, Bool.not_eq_false, decide_eq_true_eq, decide_eq_false_iff_not, beq_iff_eq, bne_iff_ne, bne_eq_false_iff_eq, beq_eq_false_iff_ne, ne_eq, reduceCtorEq, not_true_eq_false, not_false_eq_true, pl0, if_true, cmpS_eq, cmpS_neq, Bool.not_eq_eq_eq_not, Bool.not_true, Bool.not_false, Bool.not_eq_true', add64, sub64] at h) <;> (try (exfalso; omega))) | (with_reducible refine tr_alt (fun h => ?_) ?_ <;> (try (exfalso; omega))) | (with_reducible refine tr_ob ?_ ?_) | (with_reducible refine tr_done ?_) | (refine aw_tr hj tok (bookGb true) (by cbv) ?_) | (refine aw_seq fun K hK => ?_) | (refine aw_tr1 hj tok (bookGb true) (by cbv) ?_) | (refine aw_skip ?_) | (refine aw_block ?_) | (refine aw_exit ?_) | (refine aw_ret ⟨.inr rfl, ret_okj hj (by cbv) ?_ ?_⟩) | (refine aw_ret ?_) | (with_reducible refine th_n ?_) | (with_reducible refine th_r ?_) | (with_reducible refine th_x ?_) | (with_reducible refine blk_n ?_) | (with_reducible refine blk_r ?_) | (with_reducible refine blk_x ?_) | (with_reducible refine blk_y rfl ?_) | (refine ⟨.inr rfl, ret_okj hj (by cbv) ?_ ?_⟩) | (refine ⟨.inl rfl, ret_okj hj (by cbv) ?_ ?_⟩) | ((with_reducible refine ⟨(_, _, _, _, _), by cbv, ?_, ?_⟩)) | ((with_reducible refine ⟨(_, _, _), by cbv, ?_, ?_⟩)) | ((with_reducible refine ⟨_, by cbv, ?_, ?_⟩)) | (with_reducible apply_assumption -symm -exfalso only [*]))
    all_goals ((try subst y_rC); (try subst y_nR); (try subst y_validG); (try subst y_sC); (try subst y_iC); (try subst y_nS); (try subst y_nI))
    all_goals (try (repeat' first | with_reducible exact obl0 | with_reducible refine obl1 ?_ ?_))
    all_goals (try first | with_reducible exact True.intro | ((first | refine ob_le hj ?_ | refine ob_lei hj ?_ | refine ob_inb hj ?_ | refine ob_pos hj ?_ | refine ob_ne0 hj ?_ | refine ob_eqb hj ?_); (first | rfl | first | omega | (simp only [hj, std]; split <;> omega) | (simp (disch := omega) only [hj, std, cmpI, cmpB, satB, add64, sub64, ite0, pl0, pl2, pl3, sb0, if_true, if_false, eq_self] <;> omega) | (simp (disch := omega) [hj, std, cmpI, cmpB, satB, add64, sub64, ite0, pl0, pl2, pl3, sb0, if_true, if_false, eq_self] <;> omega))))
    refine aw_lpj hj [(0, .keep), (1, .keep), (2, .keep), (7, .keep), (9, .keep)] [7] (fun (⟨k, qn, qc⟩ : Int × Nat × (List C)) => stOf 122 [(0, .one (.c (vI n))), (1, .one (.c (vI m))), (2, .one (.c (vI right))), (7, .one (.ptr 7 0)), (9, .one (.c (vI k)))] [(7, .box [.own strG un uc, .own strG 1 [vS ⟨#[97]⟩], .own ruleTy qn qc])]) (fun (⟨k, qn, qc⟩ : Int × Nat × (List C)) => M - k.toNat) (fun (⟨k, qn, qc⟩ : Int × Nat × (List C)) => 0 ≤ k ∧ k ≤ m ∧ qn = nR (bndRs N k.toNat R) ∧ LeCs qc (rC (bndRs N k.toNat R))) ((0, rn, rc)) (by generalize @rC = x_rC; generalize @nR = x_nR; generalize @validG = x_validG; generalize @sC = x_sC; generalize @iC = x_iC; generalize @nS = x_nS; generalize @nI = x_nI; cbv) ?_ (fun ⟨k, qn, qc⟩ hI => ?_)
    · refine ⟨by omega, by omega, ?_, ?_⟩
      · rw [hrn, bnd_nR, bndR0_len]; rfl
      · have : bndRs N (Int.toNat 0) R = bndR0 N := by unfold bndRs bndR1; simp
        rw [this]; exact hrc
    obtain ⟨k1, k2, hqn, hqc⟩ := hI
    have v1 : qn = N + k.toNat := by rw [hqn, bnd_nR]
    rcases Decidable.em (k < m) with hk | hk
    · have e0 : (k + 1).toNat = k.toNat + 1 := by omega
      have z1 : nR (bndRs N (k.toNat + 1) R) = qn + 1 := by rw [bnd_nR, v1]; omega
      have z2 : LeCs (qc ++ [vI 0, .sl (min (k.toNat + 1) R) (iC (List.replicate (min (k.toNat + 1) R) (-1)))]) (rC (bndRs N (k.toNat + 1) R)) := by
        unfold bndRs
        rw [bndR1_succ, ← List.append_assoc, ← rC_snoc]
        have e : nI (List.replicate (min (k.toNat + 1) R) (-1)) = min (k.toNat + 1) R := by rw [nI_eq, List.length_replicate]
        rw [e]
        exact hqc.app (LeCs.refl _)
      generalize y_rC : @rC = x_rC at *
      generalize y_nR : @nR = x_nR at *
      generalize y_validG : @validG = x_validG at *
      generalize y_sC : @sC = x_sC at *
      generalize y_iC : @iC = x_iC at *
      generalize y_nS : @nS = x_nS at *
      generalize y_nI : @nI = x_nI at *
      (repeat' first | ((first | with_reducible refine tr_cut (fun h => ?_) (fun h => ?_) | refine aw_condj (by cbv) (fun h => ?_) (fun h => ?_)) <;> (try simp (disch := omega) only [hj, std, cmpI, cmpB, satB, Bool.not_eq_true, Bool.not_eq_false, decide_eq_true_eq, decide_eq_false_iff_not, beq_iff_eq, bne_iff_ne, bne_eq_false_iff_eq, beq_eq_false_iff_ne, ne_eq, reduceCtorEq, not_true_eq_false, not_false_eq_true, pl0, if_true, cmpS_eq, cmpS_neq, Bool.not_eq_eq_eq_not, Bool.not_true, Bool.not_false, Bool.not_eq_true', add64, sub64] at h) <;> (try (exfalso; omega))) | (with_reducible refine tr_alt (fun h => ?_) ?_ <;> (try (exfalso; omega))) | (with_reducible refine tr_ob ?_ ?_) | (with_reducible refine tr_done ?_) | (refine aw_tr hj tok (bookGb true) (by cbv) ?_) | (refine aw_seq fun K hK => ?_) | (refine aw_tr1 hj tok (bookGb true) (by cbv) ?_) | (refine aw_skip ?_) | (refine aw_block ?_) | (refine aw_exit ?_) | (refine aw_ret ⟨.inr rfl, ret_okj hj (by cbv) ?_ ?_⟩) | (refine aw_ret ?_) | (with_reducible refine th_n ?_) | (with_reducible refine th_r ?_) | (with_reducible refine th_x ?_) | (with_reducible refine blk_n ?_) | (with_reducible refine blk_r ?_) | (with_reducible refine blk_x ?_) | (with_reducible refine blk_y rfl ?_) | (refine ⟨.inr rfl, ret_okj hj (by cbv) ?_ ?_⟩) | (refine ⟨.inl rfl, ret_okj hj (by cbv) ?_ ?_⟩) | ((with_reducible refine ⟨(_, _, _, _, _), by cbv, ?_, ?_⟩)) | ((with_reducible refine ⟨(_, _, _), by cbv, ?_, ?_⟩)) | ((with_reducible refine ⟨_, by cbv, ?_, ?_⟩)) | (with_reducible apply_assumption -symm -exfalso only [*]))
      all_goals ((try subst y_rC); (try subst y_nR); (try subst y_validG); (try subst y_sC); (try subst y_iC); (try subst y_nS); (try subst y_nI))
      all_goals (try (repeat' first | with_reducible exact obl0 | with_reducible refine obl1 ?_ ?_))
      all_goals (try first | with_reducible exact True.intro | ((first | refine ob_le hj ?_ | refine ob_lei hj ?_ | refine ob_inb hj ?_ | refine ob_pos hj ?_ | refine ob_ne0 hj ?_ | refine ob_eqb hj ?_); (first | rfl | first | omega | (simp only [hj, std]; split <;> omega) | (simp (disch := omega) only [hj, std, cmpI, cmpB, satB, add64, sub64, ite0, pl0, pl2, pl3, sb0, if_true, if_false, eq_self] <;> omega) | (simp (disch := omega) [hj, std, cmpI, cmpB, satB, add64, sub64, ite0, pl0, pl2, pl3, sb0, if_true, if_false, eq_self] <;> omega))))
      refine aw_lpj hj [(0, .keep), (1, .keep), (2, .keep), (7, .keep), (9, .keep), (10, .keep), (11, .keep), (10, .box 1 intG)] [7, 10] (fun (⟨a, an, ac⟩ : Int × Nat × (List C)) => stOf 122 [(0, .one (.c (vI n))), (1, .one (.c (vI m))), (2, .one (.c (vI right))), (7, .one (.ptr 7 0)), (9, .one (.c (vI k))), (10, .one (.ptr 10 0)), (11, .one (.c (vI a)))] [(7, .box [.own strG un uc, .own strG 1 [vS ⟨#[97]⟩], .own ruleTy qn qc]), (10, .box [.st (vI 0), .own intG an ac])]) (fun (⟨a, an, ac⟩ : Int × Nat × (List C)) => 100 - a.toNat) (fun (⟨a, an, ac⟩ : Int × Nat × (List C)) => 0 ≤ a ∧ a ≤ right ∧ a ≤ k + 1 ∧ an = a.toNat ∧ ac = iC (List.replicate a.toNat (-1))) ((0, 0, [])) (by generalize @rC = x_rC; generalize @nR = x_nR; generalize @validG = x_validG; generalize @sC = x_sC; generalize @iC = x_iC; generalize @nS = x_nS; generalize @nI = x_nI; cbv) ?_ (fun ⟨a, an, ac⟩ hI => ?_)
      · exact ⟨by omega, by omega, by omega, rfl, rfl⟩
      obtain ⟨a1, a2, a3, han, hac⟩ := hI
      have f0 : (a + 1).toNat = a.toNat + 1 := by omega
      have f1 : iC (List.replicate (a.toNat + 1) (-1)) = ac ++ [vI (-1)] := by rw [List.replicate_succ', ← iC_snoc, hac]
      have f2 : ¬ (a ≤ k ∧ a < right) → min (k.toNat + 1) R = a.toNat := fun h => by omega
      generalize y_rC : @rC = x_rC at *
      generalize y_nR : @nR = x_nR at *
      generalize y_validG : @validG = x_validG at *
      generalize y_sC : @sC = x_sC at *
      generalize y_iC : @iC = x_iC at *
      generalize y_nS : @nS = x_nS at *
      generalize y_nI : @nI = x_nI at *
      (repeat' first | ((first | with_reducible refine tr_cut (fun h => ?_) (fun h => ?_) | refine aw_condj (by cbv) (fun h => ?_) (fun h => ?_)) <;> (try simp (disch := omega) only [hj, std, cmpI, cmpB, satB, Bool.not_eq_true, Bool.not_eq_false, decide_eq_true_eq, decide_eq_false_iff_not, beq_iff_eq, bne_iff_ne, bne_eq_false_iff_eq, beq_eq_false_iff_ne, ne_eq, reduceCtorEq, not_true_eq_false, not_false_eq_true, pl0, if_true, cmpS_eq, cmpS_neq, Bool.not_eq_eq_eq_not, Bool.not_true, Bool.not_false, Bool.not_eq_true', add64, sub64] at h) <;> (try (exfalso; omega))) | (with_reducible refine tr_alt (fun h => ?_) ?_ <;> (try (exfalso; omega))) | (with_reducible refine tr_ob ?_ ?_) | (with_reducible refine tr_done ?_) | (refine aw_tr hj tok (bookGb true) (by cbv) ?_) | (refine aw_seq fun K hK => ?_) | (refine aw_tr1 hj tok (bookGb true) (by cbv) ?_) | (refine aw_skip ?_) | (refine aw_block ?_) | (refine aw_exit ?_) | (refine aw_ret ⟨.inr rfl, ret_okj hj (by cbv) ?_ ?_⟩) | (refine aw_ret ?_) | (with_reducible refine th_n ?_) | (with_reducible refine th_r ?_) | (with_reducible refine th_x ?_) | (with_reducible refine blk_n ?_) | (with_reducible refine blk_r ?_) | (with_reducible refine blk_x ?_) | (with_reducible refine blk_y rfl ?_) | (refine ⟨.inr rfl, ret_okj hj (by cbv) ?_ ?_⟩) | (refine ⟨.inl rfl, ret_okj hj (by cbv) ?_ ?_⟩) | ((with_reducible refine ⟨(_, _, _, _, _), by cbv, ?_, ?_⟩)) | ((with_reducible refine ⟨(_, _, _), by cbv, ?_, ?_⟩)) | ((with_reducible refine ⟨_, by cbv, ?_, ?_⟩)) | (with_reducible apply_assumption -symm -exfalso only [*]))
      all_goals ((try subst y_rC); (try subst y_nR); (try subst y_validG); (try subst y_sC); (try subst y_iC); (try subst y_nS); (try subst y_nI))
      all_goals (try (repeat' first | with_reducible exact obl0 | with_reducible refine obl1 ?_ ?_))
      all_goals (try first | with_reducible exact True.intro | ((first | refine ob_le hj ?_ | refine ob_lei hj ?_ | refine ob_inb hj ?_ | refine ob_pos hj ?_ | refine ob_ne0 hj ?_ | refine ob_eqb hj ?_); (first | rfl | first | omega | (simp only [hj, std]; split <;> omega) | (simp (disch := omega) only [hj, std, cmpI, cmpB, satB, add64, sub64, ite0, pl0, pl2, pl3, sb0, if_true, if_false, eq_self] <;> omega) | (simp (disch := omega) [hj, std, cmpI, cmpB, satB, add64, sub64, ite0, pl0, pl2, pl3, sb0, if_true, if_false, eq_self] <;> omega))) | ((simp (disch := omega) only [hj, std, add64, ite0]; first | omega | (refine ⟨by omega, by omega, by omega, by omega, ?_⟩; rw [f0]; exact f1.symm) | (refine ⟨by omega, by omega, by rw [e0, z1], ?_⟩; rw [e0]; rw [f2 (by omega), ← hac] at z2; rw [han]; exact z2))))
    · have kM : k.toNat = M := by omega
      rw [kM] at hqn hqc
      have hlaw : validG (bndNs N) bndTs (bndRs N M R) = bndW N M R := bnd_law (by omega) (by omega) (by omega) (by omega)
      have hpc : pc 15 [.v true [.sl un uc, .sl 1 [vS ⟨#[97]⟩], .sl qn qc]] (ret1 (.st (vB (bndW N M R)))) := by
        rw [← hlaw, hun, huc, hqn]
        exact ⟨enters Try.func15 (by kernel_rfl) (by kernel_rfl), pc_le (pc_ValidG (bndNs N) bndTs (bndRs N M R) (bnd_sml (by omega) (by omega) (by omega))) (.cons (.v (.cons .refl (.cons .refl (.cons (hqc.le _) (LeCs.refl []))))) .nil)⟩
      have hw : bndW N M R = true ↔ (N + 1 ≤ 256 ∧ ¬ (0 < M ∧ R = 0 ∨ R < M ∨ 64 < M ∧ 64 < R)) := by unfold bndW; rw [decide_eq_true_eq]
      generalize bndW N M R = W at *
      generalize y_rC : @rC = x_rC at *
      generalize y_nR : @nR = x_nR at *
      generalize y_validG : @validG = x_validG at *
      generalize y_sC : @sC = x_sC at *
      generalize y_iC : @iC = x_iC at *
      generalize y_nS : @nS = x_nS at *
      generalize y_nI : @nI = x_nI at *
      (repeat' first | ((first | with_reducible refine tr_cut (fun h => ?_) (fun h => ?_) | refine aw_condj (by cbv) (fun h => ?_) (fun h => ?_)) <;> (try simp (disch := omega) only [hj, std, cmpI, cmpB, satB, Bool.not_eq_true, Bool.not_eq_false, decide_eq_true_eq, decide_eq_false_iff_not, beq_iff_eq, bne_iff_ne, bne_eq_false_iff_eq, beq_eq_false_iff_ne, ne_eq, reduceCtorEq, not_true_eq_false, not_false_eq_true, pl0, if_true, cmpS_eq, cmpS_neq, Bool.not_eq_eq_eq_not, Bool.not_true, Bool.not_false, Bool.not_eq_true', add64, sub64] at h) <;> (try (exfalso; omega))) | (with_reducible refine tr_alt (fun h => ?_) ?_ <;> (try (exfalso; omega))) | (with_reducible refine tr_ob ?_ ?_) | (with_reducible refine tr_done ?_) | (refine aw_tr hj tok (bookGb W) (by cbv) ?_) | (refine aw_seq fun K hK => ?_) | (refine aw_tr1 hj tok (bookGb W) (by cbv) ?_) | (refine aw_skip ?_) | (refine aw_block ?_) | (refine aw_exit ?_) | (refine aw_ret ⟨.inr rfl, ret_okj hj (by cbv) ?_ ?_⟩) | (refine aw_ret ?_) | (with_reducible refine th_n ?_) | (with_reducible refine th_r ?_) | (with_reducible refine th_x ?_) | (with_reducible refine blk_n ?_) | (with_reducible refine blk_r ?_) | (with_reducible refine blk_x ?_) | (with_reducible refine blk_y rfl ?_) | (refine ⟨.inr rfl, ret_okj hj (by cbv) ?_ ?_⟩) | (refine ⟨.inl rfl, ret_okj hj (by cbv) ?_ ?_⟩) | ((with_reducible refine ⟨(_, _, _, _, _), by cbv, ?_, ?_⟩)) | ((with_reducible refine ⟨(_, _, _), by cbv, ?_, ?_⟩)) | ((with_reducible refine ⟨_, by cbv, ?_, ?_⟩)) | (with_reducible apply_assumption -symm -exfalso only [*]))
      all_goals ((try subst y_rC); (try subst y_nR); (try subst y_validG); (try subst y_sC); (try subst y_iC); (try subst y_nS); (try subst y_nI))
      all_goals (try (repeat' first | with_reducible exact obl0 | with_reducible refine obl1 ?_ ?_))
      all_goals (try first | with_reducible exact True.intro | (refine ob_pc hj ?_; (try rw [hj]); first | exact hpc | exact c_awake14) | (refine ob_pcn hj ?_; (try rw [hj]); first | exact hpc | exact c_awake14) | ((first | refine ob_le hj ?_ | refine ob_lei hj ?_ | refine ob_inb hj ?_ | refine ob_pos hj ?_ | refine ob_ne0 hj ?_ | refine ob_eqb hj ?_); (first | rfl | first | omega | (simp only [hj, std]; split <;> omega) | (simp (disch := omega) only [hj, std, cmpI, cmpB, satB, add64, sub64, ite0, pl0, pl2, pl3, sb0, if_true, if_false, eq_self] <;> omega) | (simp (disch := omega) [hj, std, cmpI, cmpB, satB, add64, sub64, ite0, pl0, pl2, pl3, sb0, if_true, if_false, eq_self] <;> omega))) | (exact rfl) | ((exfalso; have w := ‹W = true›; rw [hw] at w; omega)) | ((exfalso; have w := ‹W = false›; have w2 : ¬ W = true := (by rw [w]; decide); rw [hw] at w2; omega)) | ((exfalso; refine ‹¬ W = decide _› ?_; rw [Bool.eq_iff_iff, hw, decide_eq_true_eq]; omega)))
end Go.Proofs.Ytgimfjmigoibgaa.A
/- GramBounds: the walk, as the row's step asks for it. -/
set_option linter.unusedSimpArgs false
set_option linter.unusedVariables false
set_option maxRecDepth 100000
set_option maxHeartbeats 4000000
namespace Go.Proofs.Ytgimfjmigoibgaa
open Go Go.RowKit
theorem gramBounds_walk (w : World) (a0 : Int) (_ : -9223372036854775808 ≤ a0 ∧ a0 ≤ 9223372036854775807) (a1 : Int) (_ : -9223372036854775808 ≤ a1 ∧ a1 ≤ 9223372036854775807) (a2 : Int) (_ : -9223372036854775808 ≤ a2 ∧ a2 ≤ 9223372036854775807) :
    Calls Try.prog 5 #[.int .i64 a0, .int .i64 a1, .int .i64 a2] w fun e w' => e = .returned (.bool true) ∧ Below w.heap.size w w' := by
  exact A.walk_of_pc (vs := [.int .i64 a0, .int .i64 a1, .int .i64 a2]) (A.pc_GramBoundsL a0 a1 a2) (by simp [A.Arg.asRoot]) (fun b => b < w.heap.size) (fun _ h => h) rfl (fun i h h2 => by
    have h3 : i < 3 := h
    match i, h3 with
    | 0, _ => exact ⟨_, rfl, .val rfl⟩
    | 1, _ => exact ⟨_, rfl, .val rfl⟩
    | 2, _ => exact ⟨_, rfl, .val rfl⟩)
end Go.Proofs.Ytgimfjmigoibgaa
