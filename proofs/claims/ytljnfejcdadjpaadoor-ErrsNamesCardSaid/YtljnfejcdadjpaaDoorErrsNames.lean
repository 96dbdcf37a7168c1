/- ErrsNames: the walk, as the row's step asks for it. -/
import Derived.Test.YtljnfejcdadjpaaDoorEr8
import Derived.Test.YtljnfejcdadjpaaDoorRows
import Derived.LaidMore
import Derived.ProofKit
import Derived.OpenShut
import Derived.SevenTiedAt
import Derived.Lib.LaidTab
import Derived.MakeChecks
set_option linter.unusedSimpArgs false
set_option linter.unusedVariables false
set_option maxRecDepth 100000
set_option maxHeartbeats 4000000
namespace Go.Proofs.YtljnfejcdadjpaaDoor
open Go Go.RowKit
theorem laid_tail {P : Program} {x : String × DataW Unit} {r : List (String × DataW Unit)} {w : World} (h : laidMet P (x :: r) w) : laidMet P r w := by
  obtain ⟨ps, hv, hnd, hrows⟩ := h
  obtain ⟨n, d⟩ := x
  obtain ⟨g, t, cs, fuel, p, q, _, _, _, _, hq, rfl⟩ := hv
  exact ⟨q, hq, List.Nodup.sublist (List.sublist_append_right _ _) hnd, fun b off hm => hrows b off (List.mem_append_right _ hm)⟩
theorem tab_met {name : String} {rest : List (String × DataW Unit)} {W : World} (hg : Tryd.prog.globalNamed name = some 0) (h : laidMet Tryd.prog ((name, Lib.tabData .u64 Lib.pow10Tab) :: rest) W) : A.Gnd W (fun b => b < W.heap.size) := by
  have ht := Lib.tabIs_of_head (g := 0) (t := 51) (e := 43) (n := 20) hg (by kernel_rfl) (by kernel_rfl) (by kernel_rfl) (by kernel_rfl) (by kernel_rfl) h
  unfold Lib.TabIs World.var? at ht
  rw [hg] at ht
  change (match W.heap[0]? with | some (.cells cs _ _) => some cs | _ => none) = _ at ht
  split at ht
  · rename_i cs e z hh
    have hlt : 0 < W.heap.size := by
      rcases Nat.lt_or_ge 0 W.heap.size with h' | h'
      · exact h'
      · rw [Array.getElem?_eq_none h'] at hh; cases hh
    refine ⟨hlt, e, z, ?_⟩
    rw [hh]
    cases ht
    rfl
  · cases ht
theorem gnd_of {W : World} (h : laidMetH Tryd.prog Rows.errsNamesRow.laid W) : A.Gnd W (fun b => b < W.heap.size) := by
  rw [Go.MakeChecks.laidMetH_plain _ _ _ (by kernel_rfl)] at h
  exact tab_met (by kernel_rfl) (laid_tail (laid_tail h))
theorem errsNames_walk (w : World) (n : Int) (b : -9223372036854775808 ≤ n ∧ n ≤ 9223372036854775807) (htab : A.Gnd w (fun b => b < w.heap.size)) : Calls Tryd.prog 5 #[.int .i64 n] w fun e w' => e = .returned (.bool true) ∧ Below w.heap.size w w' :=
  A.walk_of_pc (vs := [.int .i64 n]) (A.pc_ErrsNames n b.1 b.2) (by simp [A.Arg.asRoot]) (fun b => b < w.heap.size) (fun _ h => h) rfl (fun i h h2 => by
    have h3 : i < 1 := h
    obtain rfl : i = 0 := by omega
    exact ⟨_, rfl, .val rfl⟩) rfl htab
end Go.Proofs.YtljnfejcdadjpaaDoor
