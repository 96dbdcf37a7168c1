/- The contract of inode.File.Crash. -/
import Derived.Test.YtojonlkiokejoaaInode
namespace Go.Proofs.Ytojonlkiokejoaa
open Go.RowKit

theorem crashTo_length (bs : List UInt8) (safe n : Nat) (cuts : List Int) (m : Nat) : (crashTo bs safe n cuts m).length = n := by simp [crashTo]
theorem crashTo_get {bs : List UInt8} {safe n : Nat} {cuts : List Int} {m i : Nat} (h : i < n) : (crashTo bs safe n cuts m)[i]? = some (if safe ≤ i ∧ i < m ∧ cutAt cuts (i / 16 - safe / 16) ≤ ((i % 16 : Nat) : Int) then 0 else bs.getD i 0) := by
  simp [crashTo, h]
theorem crashTo_start {bs : List UInt8} {safe n : Nat} {cuts : List Int} (h : n ≤ bs.length) : crashTo bs safe n cuts safe = bs.take n := by
  apply List.ext_getElem?
  intro i
  by_cases hi : i < n
  · rw [crashTo_get hi, if_neg (by omega), List.getElem?_take, if_pos hi, List.getElem?_eq_getElem (by omega), List.getD_eq_getElem?_getD, List.getElem?_eq_getElem (by omega)]; rfl
  · rw [List.getElem?_eq_none (by rw [crashTo_length]; omega), List.getElem?_eq_none (by rw [List.length_take]; omega)]
theorem crashTo_keep {bs : List UInt8} {safe n : Nat} {cuts : List Int} {k : Nat} (h : ¬ cutAt cuts (k / 16 - safe / 16) ≤ ((k % 16 : Nat) : Int)) : crashTo bs safe n cuts (k + 1) = crashTo bs safe n cuts k := by
  apply List.ext_getElem?
  intro i
  by_cases hi : i < n
  · rw [crashTo_get hi, crashTo_get hi]
    by_cases hik : i = k
    · subst hik; rw [if_neg (fun hh => h hh.2.2), if_neg (fun hh => h hh.2.2)]
    · congr 1
      by_cases hc : safe ≤ i ∧ i < k ∧ cutAt cuts (i / 16 - safe / 16) ≤ ((i % 16 : Nat) : Int)
      · rw [if_pos ⟨hc.1, by omega, hc.2.2⟩, if_pos hc]
      · rw [if_neg (fun hh => hc ⟨hh.1, by omega, hh.2.2⟩), if_neg hc]
  · rw [List.getElem?_eq_none (by rw [crashTo_length]; omega), List.getElem?_eq_none (by rw [crashTo_length]; omega)]
theorem crashTo_cut {bs : List UInt8} {safe n : Nat} {cuts : List Int} {k : Nat} (hs : safe ≤ k) (hn : k < n) (h : cutAt cuts (k / 16 - safe / 16) ≤ ((k % 16 : Nat) : Int)) : crashTo bs safe n cuts (k + 1) = (crashTo bs safe n cuts k).set k 0 := by
  apply List.ext_getElem?
  intro i
  by_cases hi : i < n
  · rw [crashTo_get hi]
    by_cases hik : i = k
    · subst hik
      rw [if_pos ⟨hs, by omega, h⟩, List.getElem?_set_self (by rw [crashTo_length]; omega)]
    · rw [List.getElem?_set_ne (by omega), crashTo_get hi]
      congr 1
      by_cases hc : safe ≤ i ∧ i < k ∧ cutAt cuts (i / 16 - safe / 16) ≤ ((i % 16 : Nat) : Int)
      · rw [if_pos ⟨hc.1, by omega, hc.2.2⟩, if_pos hc]
      · rw [if_neg (fun hh => hc ⟨hh.1, by omega, hh.2.2⟩), if_neg hc]
  · rw [List.getElem?_eq_none (by rw [crashTo_length]; omega), List.getElem?_eq_none (by rw [List.length_set, crashTo_length]; omega)]
theorem set_bv (l : List UInt8) (k : Nat) : (l.set k 0).map bv = (l.map bv).set k (.int .u8 0) := by
  rw [List.map_set]; rfl

set_option maxRecDepth 100000 in
set_option maxHeartbeats 8000000 in
theorem crash_any (F : Nat) (v : Value) (bs : List UInt8) (safe : Nat) (size : Int) (ca : Option Addr) (clen ccap : Nat) (cuts : List Int) (w : World) (hf : FileAt w F v bs safe) (hsz : -9223372036854775808 ≤ size ∧ size ≤ 9223372036854775807)
    (hcl : clen = cuts.length) (hcm : clen ≤ 9223372036854775807) (hcb : 0 < clen → ∃ b off, ca = some ⟨b, off, none⟩ ∧ b < w.heap.size ∧ ¬ FP F v b ∧ ∀ i (h : i < cuts.length), w.cell? ⟨b, off + i, none⟩ = some (.int .i64 cuts[i])) :
    Calls Try.prog 23 #[.pointer (some ⟨F, 0, none⟩), .int .i64 size, .slice ca clen ccap] w fun e w' => ∃ v', e = .returned (.int .i64 (min (sectorsN (crash bs safe size cuts).length safe) clen : Nat)) ∧
      FileAt w' F v' (crash bs safe size cuts) (crash bs safe size cuts).length ∧ Chg (FP F v) w w' ∧ v'.ownBlock = v.ownBlock := by
  obtain ⟨c0, c1, f0, f1⟩ := hf.cells
  obtain ⟨va, vcap, rfl, hnil0, hform, hcap1, hcap2⟩ := owns_form hf.2.1
  have HF := Lib.hid hf
  have hFw := hf.lt.1
  have hown := hf.2.1
  have h3 := hf.2.2.1
  have h4 := hf.2.2.2
  clear hf hnil0 hform
  go_enter Try.func23, Try.ntmps23
  go_wp2_with fail
  obtain ⟨n, hn⟩ : ∃ n : Nat, n = crashN bs.length safe size := ⟨_, rfl⟩
  have e1 : IntKind.i64.wrap ((bs.length : Int) - (safe : Int)) = (bs.length : Int) - (safe : Int) := IntWalk.i64_in _ (by omega)
  have hnb : n ≤ bs.length := by rw [hn]; unfold crashN; omega
  have hns : safe ≤ n := by rw [hn]; unfold crashN; omega
  have HN := Lib.hid hn
  clear hn
  have hb1 : (0 : Int) ≤ (n : Int) := by omega
  have hb2 : (n : Int) ≤ (vcap : Int) := by omega
  have hrow : w.ownsRow (F + 1) 5 1 (.slice va n vcap) n ((crashTo bs safe n cuts safe).map bv) := by
    have := owns_take hown (m := n) hnb
    rw [Nat.mul_one, ← List.map_take] at this
    rw [crashTo_start hnb]; exact this
  have hfo : (Value.slice va bs.length vcap).ownBlock = (Value.slice va n vcap).ownBlock := by cases va <;> rfl
  have hFo : ∀ k, (Value.slice va n vcap).ownBlock = some k → F + 1 ≤ k ∧ k < w.heap.size := hrow.lt
  have HFO := Lib.hid hfo
  have HROW := Lib.hid hrow
  have HCB := Lib.hid hcb
  have HCL := Lib.hid hcl
  have hvcap : vcap ≤ maxLen := hcap2
  unfold maxLen at hcap2
  have hclb : clen ≤ 9223372036854775807 := hcm
  clear hown hrow hfo hcb hcl
  have hst : (bs.length : Int) - (safe : Int) < size ∨ (¬ (bs.length : Int) - (safe : Int) < size ∧ 0 < size) ∨ (¬ (bs.length : Int) - (safe : Int) < size ∧ ¬ 0 < size) := by omega
  rcases hst with hs1 | ⟨hs1, hs0⟩ | ⟨hs1, hs0⟩
  case' inl =>
    by_cases hs2 : safe < bs.length
    case' pos =>
      have hs3 : (safe : Int) < (bs.length : Int) := by omega
      have hs4 : 0 < (bs.length : Int) - (safe : Int) := by omega
      have e2 : IntKind.i64.wrap ((safe : Int) + ((bs.length : Int) - (safe : Int))) = (n : Int) := by rw [IntWalk.i64_in _ (by omega), HN.out]; unfold crashN; omega
      have e3 : IntKind.i64.wrap ((bs.length : Int)) = (n : Int) := by rw [IntWalk.i64_in _ (by omega), HN.out]; unfold crashN; omega
    case' neg =>
      have hs3 : ¬ (safe : Int) < (bs.length : Int) := by omega
      have hs4 : ¬ 0 < (bs.length : Int) - (safe : Int) := by omega
      have e2 : IntKind.i64.wrap ((safe : Int) + 0) = (n : Int) := by rw [IntWalk.i64_in _ (by omega), HN.out]; unfold crashN; omega
      have e3 : IntKind.i64.wrap ((safe : Int)) = (n : Int) := by rw [IntWalk.i64_in _ (by omega), HN.out]; unfold crashN; omega
      have hns2 : n ≤ safe := by rw [HN.out]; unfold crashN; omega
  case' inr.inl =>
    have e2 : IntKind.i64.wrap ((safe : Int) + size) = (n : Int) := by rw [IntWalk.i64_in _ (by omega), HN.out]; unfold crashN; omega
  case' inr.inr =>
    have e2 : IntKind.i64.wrap ((safe : Int) + 0) = (n : Int) := by rw [IntWalk.i64_in _ (by omega), HN.out]; unfold crashN; omega
    have e3 : IntKind.i64.wrap ((safe : Int)) = (n : Int) := by rw [IntWalk.i64_in _ (by omega), HN.out]; unfold crashN; omega
    have hns2 : n ≤ safe := by rw [HN.out]; unfold crashN; omega
  all_goals
    go_still_tail 26, (by kernel_rfl)
    change wpList _ _ _ _ _ w.drew
    go_wp2_with fail
    have hstart : FileAt (w.setCell ⟨F, 0, none⟩ (.slice va n vcap)).drew F (.slice va n vcap) (crashTo bs safe n cuts safe) safe := by
      refine ⟨two_set0 HF.out.1, ?_, by rw [crashTo_length]; exact hns, by rw [crashTo_length]; omega⟩
      rw [crashTo_length]
      refine (Chg.of_setCell w ⟨F, 0, none⟩ _).owns HROW.out ?_
      intro k hk h
      have := (hFo k hk).1
      have h2 : k = F := h
      omega
    have hchg : Chg (FP F (.slice va n vcap)) w (w.setCell ⟨F, 0, none⟩ (.slice va n vcap)).drew := ((Chg.of_setCell w ⟨F, 0, none⟩ _).mono (fun k _ h => .inl h)).trans (Chg.drew _ _)
    clear c0 c1 f0 f1
    go_loopw [7] (fun i wr => ∃ k : Nat, safe ≤ k ∧ k ≤ n ∧ i = .int .i64 k ∧ FileAt wr F (.slice va n vcap) (crashTo bs safe n cuts k) safe ∧ Chg (FP F (.slice va n vcap)) w wr) (fun i _ => n - (intOf i).toNat)
    case atStart => exact ⟨safe, Nat.le_refl _, hns, rfl, hstart, hchg⟩
    case round =>
      obtain ⟨k, hsk, hkn, rfl, hfk, hck⟩ := hrel
      obtain ⟨c0, c1, f0, f1⟩ := hfk.cells
      by_cases hlt : k < n
      · first
        | (exfalso; omega)
        | skip
          have hrowk := hfk.2.1
          rw [crashTo_length] at hrowk
          obtain ⟨va', vc', hv, hnone, hsome, _, _⟩ := owns_form hrowk
          cases hv
          cases va with
          | none => exact absurd (hnone rfl).1 (by omega)
          | some x =>
            obtain ⟨hx, _, hgl⟩ := hsome x rfl
            obtain ⟨g, go', gs⟩ := x
            cases hx
            have hfz := hrowk.frozenAt k
            have hcl : wr.cell? ⟨g, k, none⟩ = some (bv ((crashTo bs safe n cuts k).getD k 0)) := by
              rw [hrowk.cellAt k (by omega), List.getElem?_map, List.getD_eq_getElem?_getD, List.getElem?_eq_getElem (by rw [crashTo_length]; exact hlt)]; rfl
            have hkz : (k : Int) < (n : Int) := by omega
            have hdk : k / 16 ≤ 1048576 := by omega
            have hdd : safe / 16 ≤ k / 16 := Nat.div_le_div_right hsk
            have q1 : IntKind.i64.wrap ((k : Int) / 16 - (safe : Int) / 16) = ((k / 16 - safe / 16 : Nat) : Int) := by rw [IntWalk.i64_in _ (by omega)]; omega
            have HFK := Lib.hid hfk
            have HR := Lib.hid hrowk
            clear hfk hrowk hnone hsome
            by_cases hin : k / 16 - safe / 16 < clen
            · obtain ⟨cb, coff, rfl, hcb, hcfp, hcc⟩ := HCB.out (by omega)
              have hcut := (hck.cell (p := ⟨cb, coff + (k / 16 - safe / 16), none⟩) hcb (fun h => hcfp (by rw [FP, HFO.out]; exact h))).trans (hcc _ (by rw [← HCL.out]; exact hin))
              have hcv : cutAt cuts (k / 16 - safe / 16) = cuts[k / 16 - safe / 16]'(by rw [← HCL.out]; exact hin) := by
                unfold cutAt; rw [List.getD_eq_getElem?_getD, List.getElem?_eq_getElem (by rw [← HCL.out]; exact hin)]; rfl
              rw [← hcv] at hcut
              have HK := Lib.hid (fun (h : ¬ cutAt cuts (k / 16 - safe / 16) ≤ ((k % 16 : Nat) : Int)) => crashTo_keep (bs := bs) (n := n) h)
              have HC := Lib.hid (fun (h : cutAt cuts (k / 16 - safe / 16) ≤ ((k % 16 : Nat) : Int)) => crashTo_cut (bs := bs) hsk hlt h)
              clear hcv hcc
              generalize cutAt cuts (k / 16 - safe / 16) = ct at *
              generalize k / 16 - safe / 16 = kk at *
              go_wp2_with fail
              go_region_held3 (fun w' => w'.cell? ⟨F, 1, none⟩ = some (.int .i64 (safe : Int))) (go_keep)
                (first | (go_at_call 41; refine (sector_any _ _ (by omega) (by omega)).mono ?_; rintro e w' ⟨rfl, rfl⟩))
              go_wp2_with fail
              · have hcc2 : ct ≤ ((k % 16 : Nat) : Int) := by
                  have : ct ≤ (k : Int) % 16 := by assumption
                  omega
                have hst := HFK.out.store k 0
                go_roundw
                case rel => exact ⟨k + 1, by omega, by omega, by go_num, by rw [HC.out hcc2]; exact hst.1, hck.trans (hst.2.trans (Chg.drew _ _))⟩
                case measure => simp [intOf]; omega
              · have hcc2 : ¬ ct ≤ ((k % 16 : Nat) : Int) := by
                  have : (k : Int) % 16 < ct := by assumption
                  omega
                go_roundw
                case rel => exact ⟨k + 1, by omega, by omega, by go_num, by rw [HK.out (by omega)]; exact HFK.out, hck.trans (Chg.drew _ _)⟩
                case measure => simp [intOf]; omega
            · have hcv : cutAt cuts (k / 16 - safe / 16) = 0 := by
                unfold cutAt; rw [List.getD_eq_getElem?_getD, List.getElem?_eq_none (by rw [← HCL.out]; omega)]; rfl
              have HC := Lib.hid (crashTo_cut (bs := bs) hsk hlt (by rw [hcv]; omega : cutAt cuts (k / 16 - safe / 16) ≤ ((k % 16 : Nat) : Int)))
              clear hcv
              generalize k / 16 - safe / 16 = kk at *
              go_wp2_with fail
              go_region_held3 (fun w' => w'.cell? ⟨F, 1, none⟩ = some (.int .i64 (safe : Int))) (go_keep)
                (first | (go_at_call 41; refine (sector_any _ _ (by omega) (by omega)).mono ?_; rintro e w' ⟨rfl, rfl⟩))
              go_wp2_with fail
              have hst := HFK.out.store k 0
              go_roundw
              case rel => exact ⟨k + 1, by omega, by omega, by go_num, by rw [HC.out]; exact hst.1, hck.trans (hst.2.trans (Chg.drew _ _))⟩
              case measure => simp [intOf]; omega
      · obtain rfl : k = n := by omega
        have HE := Lib.hid (show crashTo bs safe k cuts k = crash bs safe size cuts by unfold crash; rw [← HN.out])
        have hfe := hfk
        rw [HE.out] at hfe
        have HL := Lib.hid (show (crash bs safe size cuts).length = k by unfold crash; rw [crashTo_length, HN.out])
        clear hfk
        go_wp2_with fail
        refine (sectors_any F _ _ safe wr hfe).mono ?_
        rintro e w2 ⟨rfl, m, rfl⟩
        have hfm := hfe.drewN m
        clear hfe c0 c1 f0 f1
        by_cases hcs : (clen : Int) < (sectorsN (crash bs safe size cuts).length safe : Int)
        all_goals
          go_wp2_with fail
          refine (sync_any F _ _ safe _ hfm).mono ?_
          rintro e w3 ⟨rfl, hf3, hc3⟩
          go_wp2
          go_ret
          refine ⟨.slice va k vcap, ret_int (by omega), hf3, ?_, HFO.out.symm⟩
          refine Chg.mono (S := FP F (.slice va k vcap)) ((hck.trans (Chg.drewN _ _ m)).trans (hc3.mono fun q _ h => .inl h)) ?_
          intro q _ h
          rw [FP, HFO.out]; exact h
end Go.Proofs.Ytojonlkiokejoaa
