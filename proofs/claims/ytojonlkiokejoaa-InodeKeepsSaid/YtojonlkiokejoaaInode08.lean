/- repertorylaw08.awake, and the walk of InodeFull. -/
import Derived.Test.YtojonlkiokejoaaInodeCrash
import Derived.Test.YtojonlkiokejoaaRead
import Derived.Lib.SlBytesConst
namespace Go.Proofs.Ytojonlkiokejoaa
open Go.RowKit

theorem conv_src {w : World} {v : Value} {bs : List UInt8} (h : Src w v bs.length (bs.map bv)) : (convert 32 9 v).run Try.prog w = .ok (.string ⟨bs.toArray⟩) w := by
  rcases h with ⟨rfl, hn, _⟩ | ⟨ad, c, rfl, hc⟩
  · have : bs = [] := List.eq_nil_of_length_eq_zero hn
    subst this
    exact run_convert_bytes_nil (P := Try.prog) w 32 5 Try.underlying32 Try.underlying5 0 0 9 Try.underlying9
  · refine run_convert_bytes_back (P := Try.prog) w 32 9 5 ad c bs Try.underlying32 Try.underlying5 Try.underlying9 ?_
    intro j hj
    exact hc j _ (by simp [hj, bv])
theorem src_new (w : World) (bs : List UInt8) (C : Array Value) (e : TypeId) (fr : Nat × Nat) (b n c : Nat) (hC : C = (bs.map bv).toArray) (hb : b = w.heap.size) : Src (w.alloc (.cells C e fr)) (.slice (some ⟨b, 0, none⟩) n c) n (bs.map bv) := by
  subst hC hb
  refine .inr ⟨_, c, rfl, fun j u hj => ?_⟩
  rw [Addr.add_lit]
  refine (World.cell?_alloc_mark w _ _ _ _).trans ?_
  simpa using hj

set_option maxRecDepth 100000 in
set_option maxHeartbeats 2000000 in
theorem awake08 (w : World) : Calls Try.prog 19 #[] w fun e w' => e = .returned (.bool true) ∧ Below w.heap.size w w' := by
  have kc := fun (w : World) (C : Array Value) (n c : Nat) => Lib.run_convert_bytes_const (P := Try.prog) w 32 5 C n c Try.underlying32 Try.underlying5
  go_enter Try.func19, Try.ntmps19
  go_wp2_with fail
  go_fit (new_any (some ⟨w.heap.size, 0, none⟩) 14 14 [97, 97, 97, 97, 97, 97, 97, 97, 97, 97, 97, 97, 97, 97] _ rfl (src_new _ _ _ _ _ _ _ _ rfl rfl) (by omega))
  rintro e w1 ⟨v1, rfl, hf1, hb1⟩
  have hz1 := hb1.size
  simp at hz1 hf1 hb1 ⊢
  have B1 : Below w.heap.size w w1 := ((Below.refl _ _).alloc (Nat.le_refl _) _).trans (hb1.mono (by omega))
  have hF1 := hf1.lt.1
  go_wp2_with fail
  go_fit (append_yes (w.heap.size + 1) v1 _ 14 (some ⟨w1.heap.size, 0, none⟩) 4 4 [98, 99, 100, 101] _ (hf1.alloc _) rfl (src_new _ _ _ _ _ _ _ _ rfl rfl) (by simp))
  rintro e w2 ⟨v2, rfl, hf2, hc2, _⟩
  have hz2 := hc2.size
  simp at hz2
  have B2 : Below w.heap.size w w2 := (B1.alloc (by omega) _).trans (hc2.below (by simp; omega) (fun k _ hk => by have := (hf1.fp k hk).1; omega))
  clear hc2 hb1
  simp only [List.cons_append, List.nil_append] at hf2
  go_wp2_with fail
  refine (sectors_any _ _ _ _ _ hf2).mono ?_
  rintro e w' ⟨rfl, m, rfl⟩
  rw [show sectorsN ([97, 97, 97, 97, 97, 97, 97, 97, 97, 97, 97, 97, 97, 97, 98, 99, 100, 101] : List UInt8).length 14 = 2 from rfl]
  have hf3 := hf2.drewN m
  have B3 : Below w.heap.size w (w2.drewN m) := B2.trans (Chg.below (Chg.drewN (fun _ => False) w2 m) (Nat.le_trans (by omega) hz2) (fun k _ h => h.elim))
  have hz3 : w2.heap.size ≤ (w2.drewN m).heap.size := Nat.le_refl _
  generalize w2.drewN m = w3 at *
  clear hf2 B2
  go_wp2_with fail
  go_fit (crash_any (w.heap.size + 1) v2 _ 14 4 (some ⟨w3.heap.size, 0, none⟩) 2 2 [15, 16] _ (hf3.alloc _) (by omega) rfl (by omega) (fun _ => ⟨w3.heap.size, 0, rfl, by simp, fun hk => by have := (hf3.fp _ hk).2; omega, fun i hi => (World.cell?_alloc_mark w3 _ _ _ _).trans (by match i, hi with | 0, _ => rfl | 1, _ => rfl)⟩))
  rintro e w4 ⟨v4, rfl, hf4, hc4, _⟩
  rw [show crash [97, 97, 97, 97, 97, 97, 97, 97, 97, 97, 97, 97, 97, 97, 98, 99, 100, 101] 14 4 [15, 16] = [97, 97, 97, 97, 97, 97, 97, 97, 97, 97, 97, 97, 97, 97, 98, 0, 100, 101] from by decide +kernel] at hf4 ⊢
  rw [show min (sectorsN ([97, 97, 97, 97, 97, 97, 97, 97, 97, 97, 97, 97, 97, 97, 98, 0, 100, 101] : List UInt8).length 14) 2 = 2 from rfl]
  rw [show ([97, 97, 97, 97, 97, 97, 97, 97, 97, 97, 97, 97, 97, 97, 98, 0, 100, 101] : List UInt8).length = 18 from rfl] at hf4
  have hz4 := hc4.size
  simp at hz4
  have B4 : Below w.heap.size w w4 := (B3.alloc (by omega) _).trans (hc4.below (by simp; omega) (fun k _ hk => by have := (hf3.fp k hk).1; omega))
  clear hc4 hf3 B3 hf1
  go_wp2_with fail
  refine (bytes_any _ _ _ _ _ hf4).mono ?_
  rintro e w5 ⟨v5, rfl, ho5, hb5⟩
  have hcv := conv_src (Src.of_owns ho5)
  have B5 : Below w.heap.size w w5 := B4.trans (hb5.mono (by omega))
  have hf5 := hf4.keep (Chg.of_below hb5 (fun _ => False)) (fun _ _ h => h)
  clear hf4 ho5 hb5
  go_wp2_with fail
  refine (safe_any _ _ _ _ _ hf5).mono ?_
  rintro e w' ⟨rfl, rfl⟩
  go_wp2
  go_ret
  exact ⟨rfl, B5⟩

def IsBytes (w : World) (a : Option Addr) (len cap : Nat) (bs : List UInt8) : Prop := len = bs.length ∧ Src w (.slice a len cap) len (bs.map bv) ∧ (0 < len → ∃ b off, a = some ⟨b, off, none⟩ ∧ b < w.heap.size ∧ ∀ i (h : i < bs.length), w.cell? ⟨b, off + i, none⟩ = some (bv bs[i]))
theorem bytes_of_sl {w : World} {a : Option Addr} {len cap : Nat} {bs : List UInt8} (h : (RSl 1 1 RU8) w [.slice a len cap] bs) : IsBytes w a len cap bs ∧ len ≤ cap ∧ cap ≤ 140737488351232 := by
  obtain ⟨a', cap', he, hs, h1, h2, h3, h4⟩ := h
  simp at he
  obtain ⟨rfl, rfl, rfl⟩ := he
  have hcells : 0 < bs.length → ∃ b off, a = some ⟨b, off, none⟩ ∧ b < w.heap.size ∧ ∀ i (h : i < bs.length), w.cell? ⟨b, off + i, none⟩ = some (bv bs[i]) := by
    intro h0
    obtain ⟨b, off, rfl, hlt, hc⟩ := hs h0
    refine ⟨b, off, rfl, hlt, fun i hi => ?_⟩
    obtain ⟨cs, hl, hcell, he⟩ := hc i hi
    have := hcell 0 (by omega)
    rw [show cs = _ from he] at this
    simpa [bv] using this
  refine ⟨⟨rfl, ?_, hcells⟩, h1, by omega⟩
  cases a with
  | none =>
    have hc0 := h4 rfl
    have hl0 : bs.length = 0 := by omega
    have : bs = [] := List.eq_nil_of_length_eq_zero hl0
    subst this; subst hc0
    exact .inl ⟨rfl, rfl, rfl⟩
  | some x =>
    refine .inr ⟨x, cap, rfl, fun j u hj => ?_⟩
    have hjl : j < bs.length := by
      have := (List.getElem?_eq_some_iff.1 hj).1
      simpa using this
    obtain ⟨b, off, hx, hlt, hc⟩ := hcells (by omega)
    cases hx
    rw [Addr.add_lit, hc j hjl]
    simp [hjl] at hj
    rw [hj]

theorem zeros_bv (m : Nat) : (madeCells #[Value.int IntKind.u8 0] m).toList = (List.replicate m (0 : UInt8)).map bv := by
  apply List.ext_getElem
  · rw [Array.length_toList, size_madeCells]; simp
  · intro i h1 h2
    simp [madeCells, bv, Nat.mod_one]

set_option maxRecDepth 100000 in
set_option maxHeartbeats 2000000 in
theorem inodeFull_walk (w : World) (n : Int) (hn : -9223372036854775808 ≤ n ∧ n ≤ 9223372036854775807) (a : Option Addr) (len cap : Nat) (bs : List UInt8) (hr : (RSl 1 1 RU8) w [.slice a len cap] bs) :
    Calls Try.prog 7 #[.int .i64 n, .slice a len cap] w fun e w' => e = .returned (.bool true) ∧ Below w.heap.size w w' := by
  obtain ⟨⟨hlen, hsrc, hcells⟩, hlc, hcap⟩ := bytes_of_sl hr
  obtain ⟨i0, hi, hz0, hz1, hz2⟩ := info_parts Try.info_u8
  clear hr
  by_cases h1 : n < 1048000
  · go_enter Try.func7, Try.ntmps7
    go_wp2_with (go_at_call 19; refine (awake08 _).mono ?_; rintro e w' ⟨rfl, hb⟩)
    go_ret
    exact ⟨rfl, hb⟩
  · by_cases h2 : 1048576 < n
    · go_enter Try.func7, Try.ntmps7
      go_wp2_with (go_at_call 19; refine (awake08 _).mono ?_; rintro e w' ⟨rfl, hb⟩)
      go_ret
      exact ⟨rfl, hb⟩
    · by_cases h3 : 1000 < len
      · go_enter Try.func7, Try.ntmps7
        go_wp2_with (go_at_call 19; refine (awake08 _).mono ?_; rintro e w' ⟨rfl, hb⟩)
        go_ret
        exact ⟨rfl, hb⟩
      · obtain ⟨m, hm⟩ : ∃ m : Nat, n = (m : Int) := ⟨n.toNat, by omega⟩
        have hmb : m ≤ 1048576 := by omega
        have HMN := Lib.hid hm
        have HL := Lib.hid hlen
        have HS := Lib.hid hsrc
        have h1' : 1048000 ≤ n := by omega
        have h2' : n ≤ 1048576 := by omega
        have h3' : len ≤ 1000 := by omega
        clear hlen hsrc hcells hn hm h1 h2 h3
        go_enter Try.func7, Try.ntmps7
        go_wp2_with (at_make; refine wpList_make_full _ rfl (.tmp 19) (.tmp 19) 32 rfl w.heap.size 5 i0 (.int .u8 0) 1 Try.underlying32 hi hz0 hz1 .i64 .i64 n n m rfl rfl HMN.out HMN.out ?c1 ?c2 ?c3 ?_)
        case c1 => rw [hz2]; omega
        case c2 => unfold maxLen; omega
        case c3 => exact Nat.le_refl _
        intro w1 hnew hgrow
        have hB1 : Below w.heap.size w w1 := (Below.refl _ _).grown hgrow (Nat.le_refl _) (fun k hk => by cases hk)
        obtain ⟨zs, hzl, hzo⟩ : ∃ zs : List UInt8, zs.length = m ∧ w1.ownsRow w.heap.size 5 1 (.slice (some ⟨w.heap.size, 0, none⟩) m m) m (zs.map bv) := by
          refine ⟨List.replicate m 0, by simp, ?_⟩
          have e : (madeCells #[Value.int IntKind.u8 0] m).toList = (List.replicate m (0 : UInt8)).map bv := zeros_bv m
          rw [← e]; exact hnew
        have HZL := Lib.hid hzl
        have hz1 := hB1.size
        clear hnew hgrow hzl
        go_wp2_with fail
        go_fit (new_any (some ⟨w.heap.size, 0, none⟩) m m zs w1 HZL.out.symm (Src.of_owns hzo) (by omega))
        rintro e w2 ⟨v2, rfl, hf2, hb2⟩
        have hB2 := hB1.trans (hb2.mono hz1)
        have hz2 := hb2.size
        rw [HZL.out] at hf2
        clear hzo
        by_cases hfull : 1048576 < n + (len : Int)
        · go_wp2_with fail
          go_fit (append_no w1.heap.size v2 zs m a len cap w2 hf2 (by omega) (by rw [HZL.out]; have := HMN.out; omega))
          rintro e w' ⟨rfl, rfl⟩
          go_wp2_with fail
          refine (len_any _ _ _ _ _ hf2).mono ?_
          rintro e w' ⟨rfl, rfl⟩
          rw [HZL.out, ← HMN.out]
          go_wp2_with (go_at_call 19; refine (awake08 _).mono ?_; rintro e w3 ⟨rfl, hb3⟩)
          go_ret
          exact ⟨rfl, hB2.trans (hb3.mono (by omega))⟩
        · have hs2 := HS.out.stays (fun p hp => (hB2.cell (p := p) hp))
          go_wp2_with fail
          go_fit (append_yes w1.heap.size v2 zs m a len cap bs w2 hf2 HL.out hs2 (by rw [HZL.out]; have := HMN.out; omega))
          rintro e w3 ⟨v3, rfl, hf3, hc3, _⟩
          have hz3 := hc3.size
          have hB3 : Below w.heap.size w w3 := hB2.trans (hc3.below (by omega) (fun k _ hk => by have := (hf2.fp k hk).1; omega))
          have HLL := Lib.hid (show ((zs ++ bs).length : Int) = n + (len : Int) by rw [List.length_append, HZL.out, HL.out, HMN.out]; omega)
          clear hs2
          go_wp2_with fail
          refine (len_any _ _ _ _ _ hf3).mono ?_
          rintro e w' ⟨rfl, rfl⟩
          rw [HLL.out]
          go_wp2_with fail
          refine (safe_any _ _ _ _ _ hf3).mono ?_
          rintro e w' ⟨rfl, rfl⟩
          rw [← HMN.out]
          go_wp2_with (go_at_call 19; refine (awake08 _).mono ?_; rintro e w4 ⟨rfl, hb4⟩)
          go_ret
          exact ⟨rfl, hB3.trans (hb4.mono (by omega))⟩
end Go.Proofs.Ytojonlkiokejoaa
