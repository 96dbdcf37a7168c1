/- The contracts of package inode, layer 8. -/
import Derived.Test.YtojonlkiokejoaaProg
import Derived.Test.YtojonlkiokejoaaOwn
import Derived.BigRegion
import Derived.StillTailTactics
namespace Go.Proofs.Ytojonlkiokejoaa
open Go.RowKit

def bv (b : UInt8) : Value := .int .u8 (b.toNat : Int)
theorem bv_one (l : List UInt8) : ∀ u ∈ l.map bv, u.oneCell' = true := by
  intro u hu
  obtain ⟨_, _, rfl⟩ := List.mem_map.1 hu
  rfl
theorem Try.info_u8 : (Try.prog.info? 5).map (fun i => (i.zero, i.size, i.bytes)) = some (some (.int .u8 0), 1, 1) := by kernel_rfl

/-- a file at block F: its bytes in the slice v, safe of them durable -/
def FileAt (w : World) (F : Nat) (v : Value) (bs : List UInt8) (safe : Nat) : Prop :=
  w.heap[F]? = some (.cells #[v, .int .i64 (safe : Int)] 69 (0, 0)) ∧ w.ownsRow (F + 1) 5 1 v bs.length (bs.map bv) ∧ safe ≤ bs.length ∧ bs.length ≤ 1048576
/-- the blocks of a file -/
def FP (F : Nat) (v : Value) : Nat → Prop := fun k => k = F ∨ v.ownBlock = some k
theorem FileAt.keep {S : Nat → Prop} {w w' : World} {F : Nat} {v : Value} {bs : List UInt8} {safe : Nat} (h : FileAt w F v bs safe) (hc : Chg S w w') (hs : ∀ k, FP F v k → ¬ S k) : FileAt w' F v bs safe :=
  ⟨(hc.block F (lt_of_block h.1) (hs F (.inl rfl))).trans h.1, hc.owns h.2.1 (fun k hk => hs k (.inr hk)), h.2.2⟩
theorem FileAt.lt {w : World} {F : Nat} {v : Value} {bs : List UInt8} {safe : Nat} (h : FileAt w F v bs safe) : F < w.heap.size ∧ ∀ k, v.ownBlock = some k → F + 1 ≤ k ∧ k < w.heap.size := ⟨lt_of_block h.1, h.2.1.lt⟩
theorem FileAt.cells {w : World} {F : Nat} {v : Value} {bs : List UInt8} {safe : Nat} (h : FileAt w F v bs safe) : w.cell? ⟨F, 0, none⟩ = some v ∧ w.cell? ⟨F, 1, none⟩ = some (.int .i64 (safe : Int)) ∧ w.frozen? ⟨F, 0, none⟩ = false ∧ w.frozen? ⟨F, 1, none⟩ = false := by
  refine ⟨?_, ?_, ?_, ?_⟩
  · rw [cell_of_row w F 0 _ _ _ h.1]; rfl
  · rw [cell_of_row w F 1 _ _ _ h.1]; rfl
  · exact frozen_of_row w F 0 _ _ h.1
  · exact frozen_of_row w F 1 _ _ h.1
theorem two_set0 {w : World} {F : Nat} {v s u : Value} {t : TypeId} (h : w.heap[F]? = some (.cells #[v, s] t (0, 0))) : (w.setCell ⟨F, 0, none⟩ u).heap[F]? = some (.cells #[u, s] t (0, 0)) := by
  rw [heap_setCell_same w F 0 _ t u h]; rfl
theorem two_set1 {w : World} {F : Nat} {v s u : Value} {t : TypeId} (h : w.heap[F]? = some (.cells #[v, s] t (0, 0))) : (w.setCell ⟨F, 1, none⟩ u).heap[F]? = some (.cells #[v, u] t (0, 0)) := by
  rw [heap_setCell_same w F 1 _ t u h]; rfl

theorem FileAt.store {w : World} {F g l cap : Nat} {bs : List UInt8} {safe : Nat} (h : FileAt w F (.slice (some ⟨g, 0, none⟩) l cap) bs safe) (k : Nat) (b : UInt8) :
    FileAt (w.setCell ⟨g, k, none⟩ (bv b)) F (.slice (some ⟨g, 0, none⟩) l cap) (bs.set k b) safe ∧ Chg (FP F (.slice (some ⟨g, 0, none⟩) l cap)) w (w.setCell ⟨g, k, none⟩ (bv b)) := by
  obtain ⟨h1, h2, h3, h4⟩ := h
  obtain ⟨a', c', hv, _, _, _, _⟩ := owns_form h2
  cases hv
  have hgF := (h2.lt g rfl).1
  obtain ⟨hs, hg⟩ := h2.stored k (bv b)
  refine ⟨⟨?_, ?_, by rw [List.length_set]; exact h3, by rw [List.length_set]; exact h4⟩, (Chg.of_grown hg).mono fun q _ hq => .inr hq⟩
  · rw [hg.block F (lt_of_block h1) (fun e => by cases e; omega)]; exact h1
  · rw [List.length_set, List.map_set]; exact hs
theorem FileAt.alloc {w : World} {F : Nat} {v : Value} {bs : List UInt8} {safe : Nat} (h : FileAt w F v bs safe) (o : Obj) : FileAt (w.alloc o) F v bs safe := h.keep (Chg.alloc (fun _ => False) w o) (fun _ _ h => h)
theorem FileAt.below {w w' : World} {F : Nat} {v : Value} {bs : List UInt8} {safe : Nat} (h : FileAt w F v bs safe) (hb : Below w.heap.size w w') : FileAt w' F v bs safe := h.keep (Chg.of_below hb (fun _ => False)) (fun _ _ h => h)
theorem FileAt.fp {w : World} {F : Nat} {v : Value} {bs : List UInt8} {safe : Nat} (h : FileAt w F v bs safe) : ∀ k, FP F v k → F ≤ k ∧ k < w.heap.size := by
  rintro k (rfl | hk)
  · exact ⟨Nat.le_refl _, h.lt.1⟩
  · have := h.lt.2 k hk; omega
theorem FileAt.drew {w : World} {F : Nat} {v : Value} {bs : List UInt8} {safe : Nat} (h : FileAt w F v bs safe) : FileAt w.drew F v bs safe := h
theorem FileAt.drewN {w : World} {F : Nat} {v : Value} {bs : List UInt8} {safe : Nat} (h : FileAt w F v bs safe) (n : Nat) : FileAt (w.drewN n) F v bs safe := h

set_option maxHeartbeats 400000 in
theorem new_any (a : Option Addr) (len cap : Nat) (bs : List UInt8) (w : World) (hlen : len = bs.length) (hs : Src w (.slice a len cap) len (bs.map bv)) (hm : len ≤ 1048576) :
    Calls Try.prog 20 #[.slice a len cap] w fun e w' => ∃ v, e = .returned (.pointer (some ⟨w.heap.size, 0, none⟩)) ∧ FileAt w' w.heap.size v bs bs.length ∧ Below w.heap.size w w' := by
  obtain ⟨i0, hi, hz0, hz1, hz2⟩ := info_parts Try.info_u8
  have HL := Lib.hid hlen
  clear hlen
  go_enter Try.func20, Try.ntmps20
  go_wp2_with (at_builtin; refine wpList_append_src _ rfl (.tmp 12) (.tmp 13) 32 rfl (w.heap.size + 1) 5 i0 (.int .u8 0) 1 1 Try.underlying32 hi hz0 hz1 hz2 rfl (by decide) _ _ _ rfl (World.ownsRow_nil _ _ _ _) _ len (bs.map bv) rfl (by simp [HL.out]) (hs.stays fun p hp => World.cell?_of_block (w := w) (Below.heap_alloc w _ p.block hp)) (bv_one bs) ?c1 ?c2 ?c3 ?_)
  case c1 => unfold maxLen; omega
  case c2 => omega
  case c3 => simp
  intro v' w2 hown hold hgrow hwhere hnil
  have hF0 : w2.heap[w.heap.size]? = some (.cells #[.slice none 0 0, .int .i64 (len : Int)] 69 (0, 0)) :=
    (hgrow.block w.heap.size (by simp) (by simp [Value.ownBlock])).trans (heap_alloc_new w _)
  have hbel : Below w.heap.size w w2 := ((Below.refl _ _).alloc (Nat.le_refl _) _).grown hgrow (by simp) (fun q hq => by simp [Value.ownBlock] at hq)
  obtain ⟨a', c', rfl, _, _, _⟩ := owns_form hown
  have c0 : w2.cell? ⟨w.heap.size, 0, none⟩ = some (.slice none 0 0) := by rw [cell_of_row w2 _ 0 _ _ _ hF0]; rfl
  have f0 : w2.frozen? ⟨w.heap.size, 0, none⟩ = false := frozen_of_row w2 _ 0 _ _ hF0
  have HF := Lib.hid hF0
  have HO := Lib.hid hown
  clear hF0 hold hgrow hwhere hnil hown hs
  go_wp2
  go_ret
  refine ⟨.slice a' len c', rfl, ⟨by rw [← HL.out]; exact two_set0 HF.out, ?_, Nat.le_refl _, by rw [← HL.out]; exact hm⟩, hbel.setCell (Nat.le_refl _) _⟩
  rw [← HL.out]
  refine (Chg.of_setCell w2 ⟨w.heap.size, 0, none⟩ _).owns HO.out ?_
  intro k hk h
  have := (HO.out.lt k hk).1
  have h2 : k = w.heap.size := h
  omega

set_option maxHeartbeats 400000 in
theorem len_any (F : Nat) (v : Value) (bs : List UInt8) (safe : Nat) (w : World) (hf : FileAt w F v bs safe) :
    Calls Try.prog 26 #[.pointer (some ⟨F, 0, none⟩)] w fun e w' => e = .returned (.int .i64 (bs.length : Int)) ∧ w = w' := by
  obtain ⟨c0, c1, f0, f1⟩ := hf.cells
  obtain ⟨a, cap, rfl, _, _, _⟩ := owns_form hf.2.1
  clear hf
  go_enter Try.func26, Try.ntmps26
  go_wp2
  go_ret
  exact ⟨rfl, rfl⟩

set_option maxHeartbeats 400000 in
theorem safe_any (F : Nat) (v : Value) (bs : List UInt8) (safe : Nat) (w : World) (hf : FileAt w F v bs safe) :
    Calls Try.prog 25 #[.pointer (some ⟨F, 0, none⟩)] w fun e w' => e = .returned (.int .i64 (safe : Int)) ∧ w = w' := by
  obtain ⟨c0, c1, f0, f1⟩ := hf.cells
  clear hf
  go_enter Try.func25, Try.ntmps25
  go_wp2
  go_ret
  exact ⟨rfl, rfl⟩

set_option maxHeartbeats 400000 in
theorem sector_any (i : Int) (w : World) (h0 : 0 ≤ i) (hi : i ≤ 9223372036854775807) :
    Calls Try.prog 41 #[.int .i64 i] w fun e w' => e = .returned (.int .i64 (i / 16)) ∧ w = w' := by
  go_enter Try.func41, Try.ntmps41
  go_wp2
  go_ret
  exact ⟨rfl, rfl⟩

set_option maxHeartbeats 400000 in
theorem sync_any (F : Nat) (v : Value) (bs : List UInt8) (safe : Nat) (w : World) (hf : FileAt w F v bs safe) :
    Calls Try.prog 42 #[.pointer (some ⟨F, 0, none⟩)] w fun e w' => e = .returned (.tuple #[]) ∧ FileAt w' F v bs bs.length ∧ Chg (fun k => k = F) w w' := by
  obtain ⟨c0, c1, f0, f1⟩ := hf.cells
  obtain ⟨a, cap, rfl, _, _, _⟩ := owns_form hf.2.1
  have HF := Lib.hid hf
  clear hf
  go_enter Try.func42, Try.ntmps42
  go_wp2
  go_end0
  obtain ⟨h1, h2, h3, h4⟩ := HF.out
  refine ⟨rfl, ⟨two_set1 h1, ?_, Nat.le_refl _, h4⟩, Chg.of_setCell w ⟨F, 1, none⟩ _⟩
  refine (Chg.of_setCell w ⟨F, 1, none⟩ _).owns h2 ?_
  intro k hk h
  have := (h2.lt k hk).1
  have h2 : k = F := h
  omega

def sectorsN (len safe : Nat) : Nat := if safe = len then 0 else (len - 1) / 16 - safe / 16 + 1

set_option maxHeartbeats 400000 in
theorem sectors_any (F : Nat) (v : Value) (bs : List UInt8) (safe : Nat) (w : World) (hf : FileAt w F v bs safe) :
    Calls Try.prog 22 #[.pointer (some ⟨F, 0, none⟩)] w fun e w' => e = .returned (.int .i64 (sectorsN bs.length safe : Int)) ∧ ∃ n, w' = w.drewN n := by
  by_cases h : safe = bs.length
  · have heq : ((safe : Int) == (bs.length : Int)) = true := by simp [h]
    have HS := Lib.hid (show sectorsN bs.length safe = 0 by unfold sectorsN; rw [if_pos h])
    clear h
    go_enter Try.func22, Try.ntmps22
    go_wp2_with fail
    refine (safe_any F v bs safe w hf).mono ?_
    rintro e w' ⟨rfl, rfl⟩
    go_wp2_with fail
    refine (len_any F v bs safe w hf).mono ?_
    rintro e w' ⟨rfl, rfl⟩
    go_wp2
    go_ret
    exact ⟨by rw [HS.out]; rfl, 0, rfl⟩
  · have heq : ((safe : Int) == (bs.length : Int)) = false := by simp; omega
    have HS := Lib.hid (show sectorsN bs.length safe = (bs.length - 1) / 16 - safe / 16 + 1 by unfold sectorsN; rw [if_neg h])
    have h3 := hf.2.2.1
    have h4 := hf.2.2.2
    have hlt : safe < bs.length := by omega
    obtain ⟨c0, c1, f0, f1⟩ := hf.cells
    have hle : safe / 16 ≤ (bs.length - 1) / 16 := Nat.div_le_div_right (by omega)
    clear h h3
    go_enter Try.func22, Try.ntmps22
    go_wp2_with fail
    refine (safe_any F v bs safe w hf).mono ?_
    rintro e w' ⟨rfl, rfl⟩
    go_wp2_with fail
    refine (len_any F v bs safe w hf).mono ?_
    rintro e w' ⟨rfl, rfl⟩
    go_wp2_with fail
    have hfd : FileAt w.drew F v bs safe := hf
    have e1 : IntKind.i64.wrap ((bs.length : Int) - 1) = (bs.length : Int) - 1 := IntWalk.i64_in _ (by omega)
    have e2 : IntKind.i64.wrap (((bs.length : Int) - 1) / 16 - (safe : Int) / 16) = ((bs.length : Int) - 1) / 16 - (safe : Int) / 16 := IntWalk.i64_in _ (by omega)
    have e3 : IntKind.i64.wrap (((bs.length : Int) - 1) / 16 - (safe : Int) / 16 + 1) = ((bs.length : Int) - 1) / 16 - (safe : Int) / 16 + 1 := IntWalk.i64_in _ (by omega)
    have b1 : 0 ≤ (bs.length : Int) - 1 := by omega
    have b2 : (bs.length : Int) - 1 ≤ 9223372036854775807 := by omega
    have b3 : (0 : Int) ≤ (safe : Int) := by omega
    have b4 : (safe : Int) ≤ 9223372036854775807 := by omega
    go_region_held3 (fun w' => w'.cell? ⟨F, 1, none⟩ = some (.int .i64 (safe : Int))) (go_keep)
       (first | (go_at_call 26; refine (len_any F v bs safe _ hfd).mono ?_; rintro e w' ⟨rfl, rfl⟩) | (go_at_call 41; refine (sector_any _ _ (by omega) (by omega)).mono ?_; rintro e w' ⟨rfl, rfl⟩))
    all_goals
      go_wp2
      go_ret
      refine ⟨ret_int ?_, 1, rfl⟩
      rw [HS.out]
      omega
/-- where a file's new row lies -/
def Where (w : World) (v v' : Value) : Prop := v'.ownBlock = v.ownBlock ∨ ∃ g, v'.ownBlock = some g ∧ w.heap.size ≤ g

set_option maxHeartbeats 400000 in
theorem append_no (F : Nat) (v : Value) (bs : List UInt8) (safe : Nat) (a : Option Addr) (len cap : Nat) (w : World) (hf : FileAt w F v bs safe) (hl : len ≤ 281474976710656) (h : 1048576 < bs.length + len) :
    Calls Try.prog 21 #[.pointer (some ⟨F, 0, none⟩), .slice a len cap] w fun e w' => e = .returned (.bool false) ∧ w = w' := by
  obtain ⟨c0, c1, f0, f1⟩ := hf.cells
  obtain ⟨a, cap, rfl, _, _, _⟩ := owns_form hf.2.1
  have h4 := hf.2.2.2
  clear hf
  go_enter Try.func21, Try.ntmps21
  go_wp2
  go_ret
  exact ⟨rfl, rfl⟩

set_option maxHeartbeats 1000000 in
theorem append_yes (F : Nat) (v : Value) (bs : List UInt8) (safe : Nat) (a : Option Addr) (len cap : Nat) (more : List UInt8) (w : World) (hf : FileAt w F v bs safe) (hlen : len = more.length) (hs : Src w (.slice a len cap) len (more.map bv)) (h : bs.length + len ≤ 1048576) :
    Calls Try.prog 21 #[.pointer (some ⟨F, 0, none⟩), .slice a len cap] w fun e w' => ∃ v', e = .returned (.bool true) ∧ FileAt w' F v' (bs ++ more) safe ∧ Chg (FP F v) w w' ∧ Where w v v' := by
  obtain ⟨i0, hi, hz0, hz1, hz2⟩ := info_parts Try.info_u8
  obtain ⟨c0, c1, f0, f1⟩ := hf.cells
  obtain ⟨va, vcap, rfl, hnil0, hform, _⟩ := owns_form hf.2.1
  have HL := Lib.hid hlen
  have HF := Lib.hid hf
  have hFw := hf.lt.1
  have hown := hf.2.1
  have h4 := hf.2.2.2
  clear hlen hf hnil0 hform
  go_enter Try.func21, Try.ntmps21
  go_wp2_with (at_builtin; refine wpList_append_src _ rfl (.tmp 22) (.tmp 23) 32 rfl (F + 1) 5 i0 (.int .u8 0) 1 1 Try.underlying32 hi hz0 hz1 hz2 rfl (by decide) _ _ _ rfl hown _ len (more.map bv) rfl (by simp [HL.out]) hs (bv_one more) ?c1 ?c2 ?c3 ?_)
  case c1 => unfold maxLen; omega
  case c2 => omega
  case c3 => omega
  intro v' w2 hown' hold hgrow hwhere hnil
  have hFo : (Value.slice va bs.length vcap).ownBlock ≠ some F := fun h => by have := (HF.out.lt.2 F h).1; omega
  have hF0 : w2.heap[F]? = some (.cells #[.slice va bs.length vcap, .int .i64 (safe : Int)] 69 (0, 0)) :=
    (hgrow.block F hFw (fun h => hFo h.symm)).trans HF.out.1
  obtain ⟨a', c', rfl, _, _, _⟩ := owns_form hown'
  have d0 : w2.cell? ⟨F, 0, none⟩ = some (.slice va bs.length vcap) := by rw [cell_of_row w2 _ 0 _ _ _ hF0]; rfl
  have g0 : w2.frozen? ⟨F, 0, none⟩ = false := frozen_of_row w2 _ 0 _ _ hF0
  have H0 := Lib.hid hF0
  have HO := Lib.hid hown'
  have HG := Lib.hid hgrow
  have HW := Lib.hid hwhere
  clear hF0 hold hgrow hwhere hnil hown' hs hown c0 c1 f0 f1 hFo
  go_wp2
  go_ret
  refine ⟨.slice a' (bs.length + len) c', rfl, ⟨two_set0 H0.out, ?_, ?_, ?_⟩, ?_, ?_⟩
  · have h2 : w2.ownsRow (F + 1) 5 1 (.slice a' (bs.length + len) c') (bs ++ more).length ((bs ++ more).map bv) := by
      rw [List.length_append, List.map_append, ← HL.out]; exact HO.out
    refine (Chg.of_setCell w2 ⟨F, 0, none⟩ _).owns h2 ?_
    intro k hk h
    have := (HO.out.lt k hk).1
    have h2 : k = F := h
    omega
  · rw [List.length_append]; have := HF.out.2.2.1; omega
  · rw [List.length_append, ← HL.out]; exact h
  · exact ((Chg.of_grown HG.out).mono (fun k _ h => .inr h)).trans ((Chg.of_setCell w2 ⟨F, 0, none⟩ _).mono (fun k _ h => .inl h))
  · rcases HW.out with h | h
    · exact .inl h
    · exact .inr ⟨_, h, Nat.le_refl _⟩

set_option maxHeartbeats 1000000 in
theorem bytes_any (F : Nat) (v : Value) (bs : List UInt8) (safe : Nat) (w : World) (hf : FileAt w F v bs safe) :
    Calls Try.prog 24 #[.pointer (some ⟨F, 0, none⟩)] w fun e w' => ∃ v', e = .returned v' ∧ w'.ownsRow w.heap.size 5 1 v' bs.length (bs.map bv) ∧ Below w.heap.size w w' := by
  obtain ⟨i0, hi, hz0, hz1, hz2⟩ := info_parts Try.info_u8
  obtain ⟨c0, c1, f0, f1⟩ := hf.cells
  obtain ⟨va, vcap, rfl, hnil0, hform, _⟩ := owns_form hf.2.1
  have HF := Lib.hid hf
  have hFw := hf.lt.1
  have hown := hf.2.1
  have h4 := hf.2.2.2
  clear hf hnil0 hform
  go_enter Try.func24, Try.ntmps24
  go_wp2_with (at_make; refine wpList_make_full _ rfl _ _ 32 rfl w.heap.size 5 i0 (.int .u8 0) 1 Try.underlying32 hi hz0 hz1 .i64 .i64 _ _ bs.length rfl rfl rfl rfl ?c1 ?c2 ?c3 ?_)
  case c1 => rw [hz2]; omega
  case c2 => unfold maxLen; omega
  case c3 => exact Nat.le_refl _
  intro w1 hnew hgrow
  have hbel : Below w.heap.size w w1 := (Below.refl _ _).grown hgrow (Nat.le_refl _) (fun k hk => by cases hk)
  have hown1 := (Chg.of_grown hgrow).owns hown (fun k _ h => by cases h)
  have d0 : w1.cell? ⟨F, 0, none⟩ = some (.slice va bs.length vcap) := (hbel.cell (p := ⟨F, 0, none⟩) hFw).trans c0
  have hgrown := owns_full hnew
  have hml := hnew.1
  have HN := Lib.hid hgrown
  have HO := Lib.hid hown1
  have HM := Lib.hid hml
  have HB := Lib.hid hbel
  clear hgrown hown hown1 hml hbel hnew hgrow c0 c1 f0 f1
  generalize (madeCells #[Value.int IntKind.u8 0] bs.length) = zs at *
  go_wp2_with (with_reducible refine wpList_copy_splice rfl (.tmp 12) (.tmp 16) 32 32 rfl 5 Try.underlying32 (by kernel_rfl) (some ⟨w.heap.size, 0, none⟩) va bs.length bs.length bs.length vcap rfl rfl w.heap.size 0 zs.toList 5 ?d1 (bs.map bv) ?d2 ?d3 ?d4 (bv_one bs) w.heap.size w HB.out (Nat.le_refl _) ?_)
  case d1 => simpa using HN.out
  case d2 => simp
  case d3 =>
    intro h0
    rcases Src.of_owns HO.out with ⟨hv, hn, _⟩ | ⟨ad, c, hv, hc⟩
    · omega
    · exact ⟨ad, by cases hv; rfl, fun j u hj => hc j (bv u) (by simp [hj])⟩
  case d4 => have := HM.out; simp at this ⊢; omega
  intro w2 hcp hb2
  have hlen : (List.map bv bs).length = bs.length := by simp
  have hsp : splice zs.toList 0 (List.map bv bs) = List.map bv bs := by
    have := HM.out
    simp only [splice, List.take_zero, List.nil_append]
    rw [List.drop_eq_nil_of_le (by simp at this ⊢; omega), List.append_nil]
  have HR := Lib.hid (owns_block (w := w2) (B := w.heap.size) (e := 5) (g := w.heap.size) (n := bs.length) (xs := bs.map bv) (by rw [← hsp]; exact hcp) (Nat.le_refl _) hlen (by unfold maxLen; omega))
  clear hcp hlen hsp
  go_wp2
  go_ret
  exact ⟨_, rfl, HR.out, hb2⟩

def cutAt (cuts : List Int) (k : Nat) : Int := cuts.getD k 0
/-- what a crash leaves of bytes of which the first n remain, from place 'safe' on by the cuts -/
def crashTo (bs : List UInt8) (safe n : Nat) (cuts : List Int) (m : Nat) : List UInt8 :=
  (List.range n).map fun i => if safe ≤ i ∧ i < m ∧ cutAt cuts (i / 16 - safe / 16) ≤ ((i % 16 : Nat) : Int) then 0 else bs.getD i 0
def crashN (len safe : Nat) (size : Int) : Nat := safe + (max 0 (min size ((len : Int) - safe))).toNat
def crash (bs : List UInt8) (safe : Nat) (size : Int) (cuts : List Int) : List UInt8 := crashTo bs safe (crashN bs.length safe size) cuts (crashN bs.length safe size)

end Go.Proofs.Ytojonlkiokejoaa
