/- What AskLines needs beyond, part 1. -/
import Derived.Test.YtipmpjphjhipjaaDoorMz4
import Derived.WalkKit
import Derived.WalkSpells
import Derived.WalkLawsBesides
import Derived.Lib.Hide
import Derived.Laws.AppendOwnNone
import Derived.Laws.CopyOwn
import Derived.BigQuiet
import Derived.Deep.QuietTactic
import Derived.Deep.RegionHeld3
import Derived.Deep.AppendLies
import Derived.OrdersHeld
import Derived.MapKept
import Derived.Laws.StructEq
import Derived.Great.BuildSlice
import Derived.Laws.IdiomStrings
import Derived.Lib.AppendZeros
import Derived.Test.YtipmpjphjhipjaaDoorProg
import Derived.Maps.Range
import Derived.Test.YtipmpjphjhipjaaDoorShelfAP
import Derived.Lib.ItoaNum
import Derived.Lib.AtoiAllCases
import Derived.Lib.IndexLaws
import Derived.Lib.DecodeN
import Derived.Test.YtipmpjphjhipjaaDoorRows
import Derived.LaidMore
import Derived.ProofKit
import Derived.OpenShut
import Derived.SevenTiedAt
import Derived.Lib.LaidTab
import Derived.MakeChecks
import Derived.Stop.LaidErr
import Derived.SizedLaws
import Derived.Deep.Slices
import Derived.Deep.Strs
/- From the model's reading of an argument to plain predicates on worlds: a reading relation a type, put together from parts. No program in sight. -/
set_option linter.unusedSimpArgs false
set_option linter.unusedVariables false
set_option maxRecDepth 100000
set_option maxHeartbeats 4000000
namespace Go.Proofs.YtipmpjphjhipjaaDoor
open Go.RowKit Go.ChangeShapes Go.WideShapes Go.ChangeAt
def RInt : Rd Int := fun _ cs n => cs = [.int .i64 n] ∧ -9223372036854775808 ≤ n ∧ n ≤ 9223372036854775807
def RPair {α β : Type} (s1 s2 : Nat) (A : Rd α) (B : Rd β) : Rd (α × β) := fun w cs x => ∃ c1 c2, cs = c1 ++ c2 ∧ c1.length = s1 ∧ c2.length = s2 ∧ A w c1 x.1 ∧ B w c2 x.2
/-! ### from the model's reading -/
section
variable {H : Type} {enc : TypeId × Value → H} {P : Program} {w : World}
theorem lk_int {t : TypeId} (ht : P.underlying t = some (.int .i64)) : Lk enc P w t RInt := by
 intro fuel cs x h _
 obtain ⟨n, rfl, _, hw⟩ := DataW.trod_int ht h
 refine ⟨n, rfl, ?_⟩
 simpa [Lit.wf, IntKind.min, IntKind.max, IntKind.signed, IntKind.bits] using hw
end
end Go.Proofs.YtipmpjphjhipjaaDoor
/- The ghost machine, part 34: from what an argument reads as to the machine's cells. -/
set_option linter.unusedSimpArgs false
set_option linter.unusedVariables false
set_option maxRecDepth 100000
set_option maxHeartbeats 4000000
namespace Go.Proofs.YtipmpjphjhipjaaDoor.A
open Go
def RdC {α : Type} (R : Rd α) (f : α → List C) : Prop :=
 ∀ (w : World) (cs : List Value) (x : α), R w cs x → cs.length = (f x).length ∧ ∀ k (h : k < cs.length) (h2 : k < (f x).length), CRep w (fun b => b < w.heap.size) cs[k] (f x)[k]
theorem rdc_one {w : World} {S : Nat → Prop} {v : Value} {c : C} (h : CRep w S v c) : [v].length = [c].length ∧ ∀ k (h : k < [v].length) (h2 : k < [c].length), CRep w S [v][k] [c][k] :=
 ⟨rfl, fun k hk hk2 => by
  have hk' : k < 1 := hk
  obtain rfl : k = 0 := by omega
  exact h⟩
theorem rdc_int : RdC RInt fun n => [vI n] := by rintro w cs n ⟨rfl, _⟩; exact rdc_one (.val rfl)
theorem rdc_str : RdC RStr fun s => [vS s] := by rintro w cs s ⟨rfl, _⟩; exact rdc_one (.val rfl)
theorem rdc_pair {α β : Type} {s1 s2 : Nat} {A : Rd α} {B : Rd β} {f : α → List C} {g : β → List C} (ha : RdC A f) (hb : RdC B g) : RdC (RPair s1 s2 A B) fun x => f x.1 ++ g x.2 := by
 rintro w cs x ⟨c1, c2, rfl, h1, h2, h3, h4⟩
 obtain ⟨l1, k1⟩ := ha w c1 x.1 h3
 obtain ⟨l2, k2⟩ := hb w c2 x.2 h4
 refine ⟨by rw [List.length_append, List.length_append, l1, l2], fun k hk hk2 => ?_⟩
 by_cases hlt : k < c1.length
 ·rw [List.getElem_append_left hlt, List.getElem_append_left (by omega)]
  exact k1 k hlt (by omega)
 ·have e1 : k < (c1 ++ c2).length := hk
  have e2 : k < (f x.1 ++ g x.2).length := hk2
  simp only [List.length_append] at e1 e2
  rw [List.getElem_append_right (by omega), List.getElem_append_right (by omega)]
  simp only [l1]
  exact k2 _ (by omega) (by omega)
end Go.Proofs.YtipmpjphjhipjaaDoor.A
/- Readings of structs whose fields take one cell each. No program in sight. -/
set_option linter.unusedSimpArgs false
set_option linter.unusedVariables false
set_option maxRecDepth 100000
set_option maxHeartbeats 4000000
namespace Go.Proofs.YtipmpjphjhipjaaDoor
open Go.RowKit Go.ChangeShapes Go.WideShapes Go.ChangeAt
def RRec4 {α β γ δ : Type} (A : Rd α) (B : Rd β) (C : Rd γ) (D : Rd δ) : Rd (α × β × γ × δ) := fun w cs x => ∃ c0 c1 c2 c3, cs = [c0, c1, c2, c3] ∧ A w [c0] x.1 ∧ B w [c1] x.2.1 ∧ C w [c2] x.2.2.1 ∧ D w [c3] x.2.2.2
section
variable {H : Type} {enc : TypeId × Value → H} {P : Program} {w : World}
theorem lk_fld {α : Type} {A : Rd α} {t : TypeId} {fs : Array Field} (ht : P.underlying t = some (.struct fs)) (i : Nat) (f : Field) (hf : fs[i]? = some f) (hA : Lk enc P w f.type A) :
  ∀ (fuel : Nat) (cs : List Value) (x : DataW H × List MemPlace), DataW.trod enc P w 0 (fun _ => true) true fuel t cs = some x → (x.1.weights P t).all (· ≤ reachBytes) = true → ∃ a, A w ((cs.drop f.offset).take (P.cellsOf f.type)) a := by
 intro fuel cs x h hz
 obtain ⟨xs, n, rfl, rfl, hl, hxs, hall⟩ := DataW.trod_struct ht h
 have h1 := hall i f hf
 have hi : i < xs.length := by rw [hxs]; exact (Array.getElem?_eq_some_iff.1 hf).1
 rw [List.getElem?_eq_getElem hi] at h1
 refine hA _ _ _ h1 (List.all_eq_true.2 fun m hm => List.all_eq_true.1 hz m ?_)
 simp only [DataW.weights, ht]
 exact DataW.weights_mem_each (ts := fs.toList.map (·.type)) (j := i) (t := f.type) (d := xs[i].1) (ds := xs.map (·.1)) (by simp [hf]) (by rw [List.getElem?_map, List.getElem?_eq_getElem hi]; rfl) m hm
theorem lk_len {t : TypeId} {fs : Array Field} (ht : P.underlying t = some (.struct fs)) {fuel : Nat} {cs : List Value} {x : DataW H × List MemPlace} (h : DataW.trod enc P w 0 (fun _ => true) true fuel t cs = some x) : cs.length = P.cellsOf t := by
 obtain ⟨xs, n, rfl, rfl, hl, hxs, hall⟩ := DataW.trod_struct ht h
 exact hl
theorem lk_rec4 {α β γ δ : Type} {A : Rd α} {B : Rd β} {C : Rd γ} {D : Rd δ} {t : TypeId} {f0 f1 f2 f3 : Field} (ht : P.underlying t = some (.struct #[f0, f1, f2, f3])) (ho : (f0.offset, f1.offset, f2.offset, f3.offset, P.cellsOf f0.type, P.cellsOf f1.type, P.cellsOf f2.type, P.cellsOf f3.type, P.cellsOf t) = (0, 1, 2, 3, 1, 1, 1, 1, 4))
  (ha : Lk enc P w f0.type A) (hb : Lk enc P w f1.type B) (hc : Lk enc P w f2.type C) (hd : Lk enc P w f3.type D) : Lk enc P w t (RRec4 A B C D) := by
 intro fuel cs x h hz
 simp only [Prod.mk.injEq] at ho
 obtain ⟨o0, o1, o2, o3, k0, k1, k2, k3, k⟩ := ho
 have hl := lk_len ht h
 rw [k] at hl
 match cs, hl with
 | [c0, c1, c2, c3], _ =>
  obtain ⟨a, h0⟩ := lk_fld ht 0 f0 rfl ha _ _ _ h hz
  obtain ⟨b, h1⟩ := lk_fld ht 1 f1 rfl hb _ _ _ h hz
  obtain ⟨c, h2⟩ := lk_fld ht 2 f2 rfl hc _ _ _ h hz
  obtain ⟨d, h3⟩ := lk_fld ht 3 f3 rfl hd _ _ _ h hz
  rw [o0, k0] at h0; rw [o1, k1] at h1; rw [o2, k2] at h2; rw [o3, k3] at h3
  exact ⟨(a, b, c, d), c0, c1, c2, c3, rfl, h0, h1, h2, h3⟩
end
end Go.Proofs.YtipmpjphjhipjaaDoor
/- The ghost machine: structs that came in, as cells. -/
set_option linter.unusedSimpArgs false
set_option linter.unusedVariables false
set_option maxRecDepth 100000
set_option maxHeartbeats 4000000
namespace Go.Proofs.YtipmpjphjhipjaaDoor.A
open Go
theorem rdc_rec4 {α β γ δ : Type} {A : Rd α} {B : Rd β} {D : Rd γ} {E : Rd δ} {f : α → List C} {g : β → List C} {h : γ → List C} {k : δ → List C} (ha : RdC A f) (hb : RdC B g) (hd : RdC D h) (he : RdC E k) :
  RdC (RRec4 A B D E) fun x => f x.1 ++ (g x.2.1 ++ (h x.2.2.1 ++ k x.2.2.2)) := by
 rintro w cs x ⟨c0, c1, c2, c3, rfl, h1, h2, h3, h4⟩
 exact rdc_pair (s1 := 1) (s2 := 3) ha (rdc_pair (s1 := 1) (s2 := 2) hb (rdc_pair (s1 := 1) (s2 := 1) hd he)) w _ x ⟨[c0], [c1, c2, c3], rfl, rfl, rfl, h1, ⟨[c1], [c2, c3], rfl, rfl, rfl, h2, ⟨[c2], [c3], rfl, rfl, rfl, h3, h4⟩⟩⟩
end Go.Proofs.YtipmpjphjhipjaaDoor.A
/- Requests: the laws' walks. -/
set_option linter.unusedSimpArgs false
set_option linter.unusedVariables false
set_option maxRecDepth 100000
set_option maxHeartbeats 4000000
namespace Go.Proofs.YtipmpjphjhipjaaDoor.A
open Go
theorem lineS_few (kd k n : Int) (t : ByteArray) : (lineS kd k n t).size ≤ 5000 := by
 cases h : lineB kd k n t with
 | false => rw [lineS_no h]; exact Nat.zero_le _
 | true =>
  obtain ⟨a, ⟨b0, b1⟩, ⟨c0, c1⟩, d⟩ := line_parts h
  have hq := has_lt kd
  have hw := wordS_few kd
  have hk := itoa_ten b0 b1
  have hn := itoa_ten c0 c1
  rcases Decidable.em (hasQ kd = 0) with e | e
  ·rw [lineS_0 h e]; omega
  rcases Decidable.em (hasQ kd = 1) with e1 | e1
  ·rw [lineS_1 h e1, ByteArray.size_append, sp_size]; omega
  rcases Decidable.em (hasQ kd = 3) with e3 | e3
  ·rw [lineS_3 h e3, ByteArray.size_append, sp_size]; omega
  ·rw [lineS_2 h (by omega), ByteArray.size_append, ByteArray.size_append, sp_size, sp_size]; omega
theorem bad_req {s t : ByteArray} {a b c : Int} (h : ¬ ([reqA s, reqB s, reqC s] = [a, b, c] ∧ reqD s = t)) (h1 : reqA s = a) (h2 : reqB s = b) (h3 : reqC s = c) (h4 : reqD s = t) : False := h ⟨by rw [h1, h2, h3], h4⟩
theorem bad_ok {s : ByteArray} (h1 : gOk s = true) (h2 : gOk s = false) : False := by rw [h1] at h2; cases h2
theorem pc_AskLines (kd k n : Int) (t : ByteArray) (ht : t.size < 4611686018427387904) (r0 : -9223372036854775808 ≤ kd ∧ kd ≤ 9223372036854775807) (rk : -9223372036854775808 ≤ k ∧ k ≤ 9223372036854775807) (rn : -9223372036854775808 ≤ n ∧ n ≤ 9223372036854775807) : PC Tryd.prog T 3 [.v true [vI kd, vI k, vI n, vS t]] (ret1 (.st (vB true))) [] := by
 refine pc_of tok Tryd.func3 rfl (by rfl) ?_
 obtain ⟨j, hj⟩ : ∃ j : J, j = std Tryd.prog T := ⟨_, rfl⟩
 have hm : Tryd.prog.follows .mixedOrders = true := by kernel_rfl
 have hf := lineS_few kd k n t
 have hb := fun h : lineB kd k n t = true => q_line h rfl
 have hat : 1 ≤ kd → kd ≤ 18 → cellAt rowW kd.toNat = vS (wordS kd) := fun h1 h2 => by
  rw [rowW_at (by omega)]; unfold wordS; rw [if_pos (by omega)]
 have hnw : ¬ (1 ≤ kd ∧ kd ≤ 18) → wordS kd = ⟨⟨[]⟩⟩ := fun h => by unfold wordS; rw [if_neg (by omega)]
 generalize y_rowW : @rowW = x_rowW at *
 generalize y_wordS : @wordS = x_wordS at *
 generalize y_gOk : @gOk = x_gOk at *
 generalize y_reqA : @reqA = x_reqA at *
 generalize y_reqB : @reqB = x_reqB at *
 generalize y_reqC : @reqC = x_reqC at *
 generalize y_reqD : @reqD = x_reqD at *
 generalize y_lineB : @lineB = x_lineB at *
 generalize y_lineS : @lineS = x_lineS at *
 (repeat' first | ((first | with_reducible refine tr_cut (fun h => ?_) (fun h => ?_) | refine aw_condj (by cbv) (fun h => ?_) (fun h => ?_)) <;> (try simp (disch := omega) only [hj, std, cmpI, cmpB, satB, Bool.not_eq_true, Bool.not_eq_false, decide_eq_true_eq, decide_eq_false_iff_not, beq_iff_eq, bne_iff_ne, bne_eq_false_iff_eq, beq_eq_false_iff_ne, ne_eq, reduceCtorEq, not_true_eq_false, not_false_eq_true, pl0, if_true, cmpS_eq, cmpS_neq, Bool.not_eq_eq_eq_not, Bool.not_true, Bool.not_false, Bool.not_eq_true', eq_self, and_self, add64, sub64] at h) <;> (try (exfalso; omega))) | (with_reducible refine tr_alt (fun h => ?_) ?_ <;> (try (exfalso; omega))) | (with_reducible first | refine tr_ob ?_ ?_ | refine tr_done ?_) | (refine aw_dr1 (id := 9) hj tok hm (bookAskW x_rowW x_wordS x_gOk x_reqA x_reqB x_reqC x_reqD x_lineB x_lineS) true [(1, false), (2, false), (0, true), (3, true), (4, true), (5, true)] (by kernel_rfl) (by cbv) ?_) | (refine aw_dr (id := 9) hj tok hm (bookAskW x_rowW x_wordS x_gOk x_reqA x_reqB x_reqC x_reqD x_lineB x_lineS) true [(1, false), (2, false), (0, true), (3, true), (4, true), (5, true)] (by kernel_rfl) (by cbv) ?_) | (refine aw_tr hj tok (bookAskW x_rowW x_wordS x_gOk x_reqA x_reqB x_reqC x_reqD x_lineB x_lineS) (by cbv) ?_) | (refine aw_seq fun K hK => ?_) | (refine aw_tr1 hj tok (bookAskW x_rowW x_wordS x_gOk x_reqA x_reqB x_reqC x_reqD x_lineB x_lineS) (by cbv) ?_) | (refine aw_skip ?_) | (refine aw_block ?_) | (refine aw_exit ?_) | (refine aw_ret ⟨.inr rfl, ret_okj hj (by cbv) ?_ ?_⟩) | (refine aw_ret ?_) | (with_reducible first | refine th_n ?_ | refine th_r ?_ | refine th_x ?_ | refine blk_n ?_ | refine blk_r ?_ | refine blk_x ?_ | refine blk_y rfl ?_) | (refine ⟨.inr rfl, ret_okj hj (by cbv) ?_ ?_⟩) | (refine ⟨.inl rfl, ret_okj hj (by cbv) ?_ ?_⟩) | (with_reducible apply_assumption -symm -exfalso only [*]))
 all_goals ((try subst y_rowW); (try subst y_wordS); (try subst y_gOk); (try subst y_reqA); (try subst y_reqB); (try subst y_reqC); (try subst y_reqD); (try subst y_lineB); (try subst y_lineS))
 all_goals (try (have hb0 := hb (by assumption); obtain ⟨hb1, hb2, hb3, hb4, hb5⟩ := hb0))
 all_goals (try (have hc := hat (by omega) (by omega)))
 all_goals (try (have hw := hnw (by omega)))
 all_goals (try (repeat' first | with_reducible exact obl0 | with_reducible refine obl1 ?_ ?_))
 all_goals (try first | with_reducible exact True.intro | ((first | refine ob_pc hj ?_ | refine ob_pcn hj ?_); (try rw [hj]); first | exact c_awake | exact c_Parse _ (by omega) | exact c_Line _ _ _ _ | exact c_rLine _ _ _ _ ht rk rn | exact c_Word _ | exact c_Words) | ((first | refine ob_le hj ?_ | refine ob_lei hj ?_ | refine ob_inb hj ?_ | refine ob_pos hj ?_ | refine ob_ne0 hj ?_ | refine ob_eqb hj ?_); (first | rfl | first | omega | (simp only [hj, std]; split <;> omega) | (simp (disch := omega) only [hj, std, cmpI, cmpB, satB, add64, sub64, ite0, pl0, pl2, pl3, sb0, if_true, if_false, eq_self, rowW_len] <;> omega) | (simp (disch := omega) [hj, std, cmpI, cmpB, satB, add64, sub64, ite0, pl0, pl2, pl3, sb0, if_true, if_false, eq_self, rowW_len] <;> omega))) | (exact rfl) | ((rw [hj]; first | exact mseqA | exact mseqL)) | ((refine ob_vals hj ?_; exact rowW_vals)) | ((refine ob_ok hj ?_; rw [hj]; exact ⟨_, hc⟩)) | ((exfalso; exact bad_req (by assumption) hb2 hb3 hb4 hb5)) | ((exfalso; exact bad_ok hb1 (by assumption))) | ((exfalso; simp_all [gs] <;> fail "no")) | ((refine ret1_b ?_; rw [hj]; simp_all [std] <;> fail "no")))
end Go.Proofs.YtipmpjphjhipjaaDoor.A
/- AskLines: the walk, as the row's step asks for it. -/
set_option linter.unusedSimpArgs false
set_option linter.unusedVariables false
set_option maxRecDepth 100000
set_option maxHeartbeats 4000000
namespace Go.Proofs.YtipmpjphjhipjaaDoor.A
open Go
abbrev Rq := Int × Int × Int × ByteArray
abbrev RReq : Rd Rq := RRec4 RInt RInt RInt RStr
theorem rdc_req : RdC RReq fun x => [vI x.1] ++ ([vI x.2.1] ++ ([vI x.2.2.1] ++ [vS x.2.2.2])) := rdc_rec4 rdc_int rdc_int rdc_int rdc_str
theorem req_arg {w : World} {a : Array Value} {x : Rq} {bx : Nat → Nat} {b : Nat} (h : RReq w (Value.agg a).cells.toList x) : ArgRep w (fun b => b < w.heap.size) bx b (.agg a) (.v true [vI x.1, vI x.2.1, vI x.2.2.1, vS x.2.2.2]) := by
 obtain ⟨h1, h2⟩ := rdc_req w _ x h
 have e : (Value.agg a).cells.toList = a.toList := rfl
 rw [e] at h1 h2
 refine ⟨a, rfl, by simpa using h1, fun k hk hk2 => ?_⟩
 have := h2 k (by simpa using hk2) hk
 simpa using this
end Go.Proofs.YtipmpjphjhipjaaDoor.A
namespace Go.Proofs.YtipmpjphjhipjaaDoor
open Go Go.RowKit
theorem askLines_walk (w : World) (a : Array Value) (x : A.Rq) (R : A.RReq w (Value.agg a).cells.toList x) (htab : A.Gnd w (fun b => b < w.heap.size)) : Calls Tryd.prog 3 #[.agg a] w fun e w' => e = .returned (.bool true) ∧ Below w.heap.size w w' := by
  have hr := R
  obtain ⟨c0, c1, c2, c3, _, ⟨_, b0⟩, ⟨_, b1⟩, ⟨_, b2⟩, ⟨_, b3⟩⟩ := hr
  exact A.walk_of_pc (vs := [.agg a]) (A.pc_AskLines x.1 x.2.1 x.2.2.1 x.2.2.2 (by omega) b0 b1 b2) (by simp [A.Arg.asRoot]) (fun b => b < w.heap.size) (fun _ h => h) rfl (fun i h h2 => by
    have h3 : i < 1 := h
    obtain rfl : i = 0 := by omega
    exact A.req_arg R) rfl htab
end Go.Proofs.YtipmpjphjhipjaaDoor
