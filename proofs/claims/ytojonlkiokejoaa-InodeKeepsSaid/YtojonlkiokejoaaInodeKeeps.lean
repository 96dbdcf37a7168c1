/- the walk of repertorylaw08.InodeKeeps -/
import Derived.Test.YtojonlkiokejoaaInode08
import Derived.Test.YtojonlkiokejoaaReg
namespace Go.Proofs.Ytojonlkiokejoaa
open Go.RowKit

theorem Try.info_int : (Try.prog.info? 3).map (fun i => (i.zero, i.size, i.bytes)) = some (some (.int .i64 0), 1, 8) := by kernel_rfl
def iv (n : Int) : Value := .int .i64 n
theorem iv_one (l : List Int) : ∀ u ∈ l.map iv, u.oneCell' = true := by
  intro u hu
  obtain ⟨_, _, rfl⟩ := List.mem_map.1 hu
  rfl
def IsInts (w : World) (a : Option Addr) (len : Nat) (xs : List Int) : Prop := len = xs.length ∧ (0 < len → ∃ b off, a = some ⟨b, off, none⟩ ∧ b < w.heap.size ∧ ∀ i (h : i < xs.length), w.cell? ⟨b, off + i, none⟩ = some (.int .i64 xs[i]))
theorem ints_of_sl {w : World} {a : Option Addr} {len cap : Nat} {xs : List Int} (h : (RSl 1 8 RInt) w [.slice a len cap] xs) : IsInts w a len xs ∧ (∀ x ∈ xs, -9223372036854775808 ≤ x ∧ x ≤ 9223372036854775807) ∧ len ≤ cap ∧ cap * 8 ≤ 140737488351232 := by
  obtain ⟨a', cap', he, hs, h1, h2, h3, h4⟩ := h
  simp at he
  obtain ⟨rfl, rfl, rfl⟩ := he
  refine ⟨⟨rfl, ?_⟩, ?_, h1, h2⟩
  · intro h0
    obtain ⟨b, off, rfl, hlt, hc⟩ := hs h0
    refine ⟨b, off, rfl, hlt, fun i hi => ?_⟩
    obtain ⟨cs, hl, hcell, he, _⟩ := hc i hi
    have := hcell 0 (by omega)
    rw [he] at this
    simpa using this
  · intro x hx
    obtain ⟨i, hi, rfl⟩ := List.mem_iff_getElem.1 hx
    obtain ⟨b, off, rfl, hlt, hc⟩ := hs (by omega)
    obtain ⟨cs, hl, hcell, he, hb⟩ := hc i hi
    exact hb

/-- a file's blocks stay apart from others -/
theorem apart_step {w : World} {F : Nat} {v v' : Value} {T : Nat → Prop} (h : ∀ k, FP F v k → ¬ T k) (hT : ∀ k, T k → k < w.heap.size) (hw : Where w v v') : ∀ k, FP F v' k → ¬ T k := by
  rintro k (rfl | hk) ht
  · exact h k (.inl rfl) ht
  · rcases hw with hw | ⟨g, hg, hlt⟩
    · exact h k (.inr (by rw [← hw]; exact hk)) ht
    · rw [hg] at hk; cases hk; have := hT _ ht; omega

/-- with all cuts of 16 nothing is lost -/
theorem crash_whole {b more : List UInt8} : crash (b ++ more) b.length more.length (List.replicate (sectorsN (b ++ more).length b.length) 16) = b ++ more := by
  unfold crash
  have hn : crashN (b ++ more).length b.length more.length = (b ++ more).length := by
    unfold crashN; rw [List.length_append]; omega
  rw [hn]
  apply List.ext_getElem?
  intro i
  by_cases hi : i < (b ++ more).length
  · rw [crashTo_get hi, if_neg]
    · rw [List.getD_eq_getElem?_getD, List.getElem?_eq_getElem hi]; rfl
    · rintro ⟨h1, _, h3⟩
      have hs : i / 16 - b.length / 16 < sectorsN (b ++ more).length b.length := by
        unfold sectorsN
        rw [if_neg (by omega)]
        have : i / 16 ≤ ((b ++ more).length - 1) / 16 := Nat.div_le_div_right (by omega)
        omega
      unfold cutAt at h3
      rw [List.getD_eq_getElem?_getD, List.getElem?_replicate, if_pos hs] at h3
      simp at h3
      omega
  · rw [List.getElem?_eq_none (by rw [crashTo_length]; omega), List.getElem?_eq_none (by omega)]

set_option maxRecDepth 100000 in
set_option maxHeartbeats 4000000 in
theorem inodeKeeps_walk (w : World) (a1 : Option Addr) (len1 cap1 : Nat) (b : List UInt8) (hr1 : (RSl 1 1 RU8) w [.slice a1 len1 cap1] b) (a2 : Option Addr) (len2 cap2 : Nat) (more : List UInt8) (hr2 : (RSl 1 1 RU8) w [.slice a2 len2 cap2] more)
    (size : Int) (hsize : -9223372036854775808 ≤ size ∧ size ≤ 9223372036854775807) (a3 : Option Addr) (len3 cap3 : Nat) (cuts : List Int) (hr3 : (RSl 1 8 RInt) w [.slice a3 len3 cap3] cuts) :
    Calls Try.prog 6 #[.slice a1 len1 cap1, .slice a2 len2 cap2, .int .i64 size, .slice a3 len3 cap3] w fun e w' => e = .returned (.bool true) ∧ Below w.heap.size w w' := by
  obtain ⟨⟨hlen1, hsrc1, hcells1⟩, hlc1, hcap1⟩ := bytes_of_sl hr1
  obtain ⟨⟨hlen2, hsrc2, hcells2⟩, hlc2, hcap2⟩ := bytes_of_sl hr2
  obtain ⟨⟨hlen3, hcells3⟩, hcb3, hlc3, hcap3⟩ := ints_of_sl hr3
  obtain ⟨i0, hi, hz0, hz1, hz2⟩ := info_parts Try.info_u8
  obtain ⟨j0, ji, jz0, jz1, jz2⟩ := info_parts Try.info_int
  clear hr1 hr2 hr3
  by_cases h1 : 300 < len1
  · go_enter Try.func6, Try.ntmps6
    go_wp2_with (go_at_call 19; refine (awake08 _).mono ?_; rintro e w' ⟨rfl, hb⟩)
    go_ret
    exact ⟨rfl, hb⟩
  by_cases h2 : 300 < len2
  · go_enter Try.func6, Try.ntmps6
    go_wp2_with (go_at_call 19; refine (awake08 _).mono ?_; rintro e w' ⟨rfl, hb⟩)
    go_ret
    exact ⟨rfl, hb⟩
  by_cases h3 : 40 < len3
  · go_enter Try.func6, Try.ntmps6
    go_wp2_with (go_at_call 19; refine (awake08 _).mono ?_; rintro e w' ⟨rfl, hb⟩)
    go_ret
    exact ⟨rfl, hb⟩
  have HL1 := Lib.hid hlen1
  have HL2 := Lib.hid hlen2
  have HL3 := Lib.hid hlen3
  have HS1 := Lib.hid hsrc1
  have HS2 := Lib.hid hsrc2
  have HC1 := Lib.hid hcells1
  have HC3 := Lib.hid hcells3
  have HSZ := Lib.hid hsize
  have hb1 : len1 ≤ 300 := by omega
  have hb2 : len2 ≤ 300 := by omega
  have hb3 : len3 ≤ 40 := by omega
  clear hlen1 hlen2 hlen3 hsrc1 hsrc2 hcells1 hcells2 hcells3 hsize h1 h2 h3 hcb3 hlc1 hlc2 hlc3 hcap1 hcap2 hcap3
  go_enter Try.func6, Try.ntmps6
  go_wp2_with fail
  -- x
  refine (new_any a1 len1 cap1 b w HL1.out HS1.out (by omega)).mono ?_
  rintro e w1 ⟨v1, rfl, hf1, hw1⟩
  have hz1' := hw1.size
  go_wp2_with fail
  -- y
  refine (new_any a1 len1 cap1 b w1 HL1.out (HS1.out.stays fun p hp => hw1.cell (p := p) hp) (by omega)).mono ?_
  rintro e w2 ⟨v2, rfl, hf2, hw2⟩
  have hz2' := hw2.size
  have B2 : Below w.heap.size w w2 := hw1.trans (hw2.mono hz1')
  have g1 := hf1.keep (Chg.of_below hw2 (fun _ => False)) (fun _ _ h => h)
  have D12 : ∀ k, FP w.heap.size v1 k → ¬ FP w1.heap.size v2 k := fun k hk hk2 => by have := (hf1.fp k hk).2; have := (hf2.fp k hk2).1; omega
  have lo1 : ∀ k, FP w.heap.size v1 k → w.heap.size ≤ k := fun k hk => (hf1.fp k hk).1
  have lo2 : ∀ k, FP w1.heap.size v2 k → w.heap.size ≤ k := fun k hk => by have := (hf2.fp k hk).1; omega
  have LO1 := Lib.hid lo1
  have LO2 := Lib.hid lo2
  have HD12 := Lib.hid D12
  clear hf1 lo1 lo2 D12 hw1 hw2
  -- all
  have hempty : (w2.alloc (.cells #[] 5)).ownsRow w2.heap.size 5 1 (.slice (some ⟨w2.heap.size, 0, none⟩) 0 0) 0 [] :=
    owns_new w2 _ _ _ _ 0 0 _ (Nat.le_refl _) (Nat.le_refl _) (by unfold maxLen; omega) rfl rfl rfl
  go_wp2_with (at_builtin; refine wpList_append_src _ rfl (.tmp 34) (.tmp 35) 32 rfl w2.heap.size 5 i0 (.int .u8 0) 1 1 Try.underlying32 hi hz0 hz1 hz2 rfl (by decide) _ _ _ rfl hempty _ len1 (b.map bv) rfl (by simp [HL1.out]) ((HS1.out.stays fun p hp => B2.cell (p := p) hp).stays fun p hp => World.cell?_of_block (w := w2) (Below.heap_alloc w2 _ p.block hp)) (bv_one b) ?c1 ?c2 ?c3 ?_)
  case c1 => unfold maxLen; omega
  case c2 => omega
  case c3 => simp
  intro va w3 hoa _ hga hwa hna
  have B3 : Below w2.heap.size w2 w3 := Below.grown ((Below.refl _ _).alloc (Nat.le_refl _) _) hga (by simp) (fun k hk => by cases hk; exact Nat.le_refl _)
  have hz3' := B3.size
  have HS23 := Lib.hid ((HS2.out.stays fun p hp => B2.cell (p := p) hp).stays fun p hp => B3.cell (p := p) hp)
  obtain ⟨aa, ca, rfl, -, -, -⟩ := owns_form hoa
  clear hga hwa hna hempty
  go_wp2_with (at_builtin; refine wpList_append_src _ rfl (.tmp 36) (.tmp 37) 32 rfl w2.heap.size 5 i0 (.int .u8 0) 1 1 Try.underlying32 hi hz0 hz1 hz2 rfl (by decide) _ _ _ rfl hoa _ len2 (more.map bv) rfl (by simp [HL2.out]) HS23.out (bv_one more) ?d1 ?d2 ?d3 ?_)
  case d1 => unfold maxLen; omega
  case d2 => omega
  case d3 => omega
  intro va w4 hob _ hga hwa hna
  have B4 : Below w2.heap.size w2 w4 := B3.grown hga (by omega) (fun k hk => (hoa.lt k hk).1)
  have hz4' := B4.size
  have hall : w4.ownsRow w2.heap.size 5 1 va (b ++ more).length ((b ++ more).map bv) := by
    rw [List.length_append, List.map_append, ← HL1.out, ← HL2.out]; exact hob
  have B4w := B2.trans (B4.mono (by omega : w.heap.size ≤ w2.heap.size))
  have g2 := g1.below B4
  have k2 := hf2.below B4
  have DA1 : ∀ k, va.ownBlock = some k → ¬ FP w.heap.size v1 k := fun k hk h => by have := (hall.lt k hk).1; have := (g1.fp k h).2; omega
  have DA2 : ∀ k, va.ownBlock = some k → ¬ FP w1.heap.size v2 k := fun k hk h => by have := (hall.lt k hk).1; have := (hf2.fp k h).2; omega
  have HDA1 := Lib.hid DA1
  have HDA2 := Lib.hid DA2
  have hle600 : (b ++ more).length ≤ 600 := by rw [List.length_append, ← HL1.out, ← HL2.out]; omega
  obtain ⟨aa', ca', rfl, -, -, -⟩ := owns_form hob
  clear hga hwa hna hoa hob g1 hf2 DA1 DA2 B3 HS23
  go_wp2_with fail
  -- x.Append
  refine (append_yes _ v1 b b.length a2 len2 cap2 more w4 g2 HL2.out (HS2.out.stays fun p hp => B4w.cell (p := p) hp) (by rw [← HL1.out]; omega)).mono ?_
  rintro e w5 ⟨v1', rfl, g3, hc5, hwh1⟩
  have hz5' := hc5.size
  have k3 := k2.keep hc5 (fun k hk h => HD12.out k h hk)
  have all5 := hc5.owns hall (fun k hk => HDA1.out k hk)
  have B5w := B4w.trans (hc5.below (by omega) (fun k _ hk => LO1.out k hk))
  have HD := Lib.hid (apart_step HD12.out (fun k hk => (k2.fp k hk).2) hwh1)
  have HA1 := Lib.hid (apart_step (T := fun k => (Value.slice aa' (len1 + len2) ca').ownBlock = some k) (fun k h hk => HDA1.out k hk h) (fun k hk => (hall.lt k hk).2) hwh1)
  have LO1b := Lib.hid (show ∀ k, FP w.heap.size v1' k → w.heap.size ≤ k from fun k hk => (g3.fp k hk).1)
  clear g2 k2 hall hc5 hwh1 HD12 HDA1 LO1 B4
  go_wp2_with fail
  -- y.Append
  refine (append_yes _ v2 b b.length a2 len2 cap2 more w5 k3 HL2.out (HS2.out.stays fun p hp => B5w.cell (p := p) hp) (by rw [← HL1.out]; omega)).mono ?_
  rintro e w6 ⟨v2', rfl, k4, hc6, hwh2⟩
  have hz6' := hc6.size
  have g4 := g3.keep hc6 (fun k hk h => HD.out k hk h)
  have all6 := hc6.owns all5 (fun k hk => HDA2.out k hk)
  have B6w := B5w.trans (hc6.below (by omega) (fun k _ hk => LO2.out k hk))
  have HDb := Lib.hid (apart_step (fun k h hk => HD.out k hk h) (fun k hk => (g3.fp k hk).2) hwh2)
  have HA2 := Lib.hid (apart_step (T := fun k => (Value.slice aa' (len1 + len2) ca').ownBlock = some k) (fun k h hk => HDA2.out k hk h) (fun k hk => (all5.lt k hk).2) hwh2)
  have LO2b := Lib.hid (show ∀ k, FP w1.heap.size v2' k → w.heap.size ≤ k from fun k hk => by have := (k4.fp k hk).1; omega)
  clear g3 k3 all5 hc6 hwh2 HD HDA2 LO2 B5w B4w
  generalize hS : sectorsN (b ++ more).length b.length = S at *
  have HSS := Lib.hid hS
  have hSb : S ≤ 600 := by rw [← hS]; unfold sectorsN; split <;> omega
  clear hS
  go_wp2_with fail
  -- whole
  go_loopw [13, 12] (fun i v wr => ∃ k : Nat, k ≤ S ∧ i = .int .i64 k ∧ wr.ownsRow w6.heap.size 3 1 v k ((List.replicate k (16 : Int)).map iv) ∧ Below w6.heap.size w6 wr) (fun i _ _ => S - (intOf i).toNat)
  case atStart => exact ⟨0, by omega, rfl, World.ownsRow_nil _ _ _ _, Below.refl _ _⟩
  case round =>
    obtain ⟨k, hk, rfl, how, hbr⟩ := hrel
    have kr := k4.below hbr
    go_wp2_with fail
    refine (sectors_any _ _ _ _ _ kr).mono ?_
    rintro e w7 ⟨rfl, m, hw7⟩
    rw [HSS.out]
    have how7 : w7.ownsRow w6.heap.size 3 1 u12 k ((List.replicate k (16 : Int)).map iv) := by rw [hw7]; exact how
    have hbr7 : Below w6.heap.size w6 w7 := by rw [hw7]; exact ⟨hbr.os, hbr.tape, hbr.output, hbr.size, hbr.block⟩
    clear hw7 how hbr kr
    by_cases hks : k < S
    · have HR := Lib.hid (show (List.replicate (k + 1) (16 : Int)).map iv = (List.replicate k (16 : Int)).map iv ++ [.int .i64 16] by
        rw [List.replicate_succ', List.map_append]; rfl)
      have hbz := hbr7.size
      generalize hks0 : (List.replicate k (16 : Int)).map iv = ks at *
      clear hks0
      go_wp2_with (at_builtin; refine wpList_append_src _ rfl (.tmp 55) (.tmp 56) 33 rfl w6.heap.size 3 j0 (.int .i64 0) 1 8 Try.underlying33 ji jz0 jz1 jz2 rfl (by decide) _ _ _ rfl (how7.alloc _) _ 1 [.int .i64 16] rfl rfl (.inr ⟨⟨w7.heap.size, 0, none⟩, 1, rfl, cell_new1 _ _ _ _ rfl⟩) (one_cell1 rfl) ?e1 ?e2 ?e3 ?_)
      case e1 => unfold maxLen; omega
      case e2 => omega
      case e3 => simp; omega
      intro vn w8 hon _ hgn hwn hnn
      have hb8 : Below w6.heap.size w6 w8 := (hbr7.alloc (by omega) _).grown hgn (by simp; omega) (fun q hq => (how7.lt q hq).1)
      have HO8 := Lib.hid hon
      clear hgn hwn hnn hon how7
      go_wp2_with fail
      go_roundw
      case rel => exact ⟨k + 1, by omega, by go_num, by rw [HR.out]; exact HO8.out, hb8⟩
      case measure => simp [intOf]; omega
    · obtain rfl : k = S := by omega
      have B7w := B6w.trans (hbr7.mono (B6w.size))
      have g7 := g4.below hbr7
      have k7 := k4.below hbr7
      have all7 := (Chg.of_below hbr7 (fun _ => False)).owns all6 (fun _ _ h => h)
      have hbz := hbr7.size
      have HX7 := Lib.hid hbr7
      have DW1 := Lib.hid (show ∀ q, u12.ownBlock = some q → FP w.heap.size v1' q → False from fun q hq h => by have := (how7.lt q hq).1; have := (g4.fp q h).2; omega)
      have DW2 := Lib.hid (show ∀ q, u12.ownBlock = some q → FP w1.heap.size v2' q → False from fun q hq h => by have := (how7.lt q hq).1; have := (k4.fp q h).2; omega)
      obtain ⟨ua, uc, rfl, hun, hus, -, -⟩ := owns_form how7
      have HU := Lib.hid hus
      clear g4 k4 all6 hbr7 B6w hun hus
      go_wp2_with fail
      -- x.Crash
      refine (crash_any _ v1' (b ++ more) b.length size a3 len3 cap3 cuts w7 g7 HSZ.out HL3.out (by omega) (fun h0 => by
        obtain ⟨cb, co, h1, h2, h3⟩ := HC3.out h0
        have hwz := B7w.size
        exact ⟨cb, co, h1, by omega, fun hk => by have := LO1b.out cb hk; omega, fun i hi => (B7w.cell (p := ⟨cb, co + i, none⟩) h2).trans (h3 i hi)⟩)).mono ?_
      rintro e w8 ⟨v1c, rfl, g8, hc8, hv8⟩
      have hz8 := hc8.size
      have k8 := k7.keep hc8 (fun q hq h => HDb.out q hq h)
      have all8 := hc8.owns all7 (fun q hq h => HA1.out q h hq)
      have how8 := hc8.owns how7 (fun q hq h => DW1.out q hq h)
      have B8w := B7w.trans (hc8.below (by have := B7w.size; omega) (fun q _ hq => LO1b.out q hq))
      have hFP8 : ∀ q, FP w.heap.size v1c q → FP w.heap.size v1' q := fun q hq => by rw [FP, hv8] at hq; exact hq
      have HFP8 := Lib.hid hFP8
      clear g7 k7 all7 how7 hc8 hv8 hFP8 DW1
      go_wp2_with fail
      -- y.Crash
      have e2 : (len2 : Int) = ((more.length : Nat) : Int) := by rw [HL2.out]
      have E2 := Lib.hid e2
      clear e2
      refine (crash_any _ v2' (b ++ more) b.length len2 ua k uc (List.replicate k 16) w8 k8 (by omega) (by simp) (by omega) (fun h0 => by
        rcases Src.of_owns how8 with ⟨hv, hn, _⟩ | ⟨ad, c, hv, hc⟩
        · omega
        · cases hv
          obtain ⟨hx, hxB, hxl⟩ := HU.out ad rfl
          rw [hx] at hc ⊢
          exact ⟨ad.block, 0, rfl, by omega, fun hk => DW2.out ad.block (by rw [hx]; rfl) hk, fun i hi => by
            have := hc i (iv 16) (by simp at hi; simp [hi])
            rw [Addr.add_lit] at this
            rw [this]; simp [iv]⟩)).mono ?_
      rintro e w9 ⟨v2c, rfl, k9, hc9, hv9⟩
      rw [E2.out] at k9
      rw [show k = sectorsN (b ++ more).length b.length from HSS.out.symm, crash_whole] at k9
      have hz9 := hc9.size
      have g9 := g8.keep hc9 (fun q hq h => HDb.out q h (HFP8.out q hq))
      have all9 := hc9.owns all8 (fun q hq h => HA2.out q h hq)
      have B9w := B8w.trans (hc9.below (by have := B8w.size; omega) (fun q _ hq => LO2b.out q hq))
      clear g8 k8 all8 how8 hc9 hv9
      generalize hX : crash (b ++ more) b.length size cuts = X at *
      have HX := Lib.hid hX
      have hXl : X.length ≤ (b ++ more).length ∧ b.length ≤ X.length := by
        rw [← hX]; unfold crash; rw [crashTo_length]; unfold crashN; rw [List.length_append]; omega
      clear hX
      go_wp2_with fail
      -- x.Bytes
      refine (bytes_any _ _ _ _ _ g9).mono ?_
      rintro e w10 ⟨vg, rfl, og, hb10⟩
      have hz10 := hb10.size
      have g10 := g9.below hb10
      have k10 := k9.below hb10
      have all10 := (Chg.of_below hb10 (fun _ => False)).owns all9 (fun _ _ h => h)
      have B10w := B9w.trans (hb10.mono B9w.size)
      obtain ⟨ga, gc, rfl, hgn, hgs, -, -⟩ := owns_form og
      clear g9 all9 hb10
      go_wp2_with fail
      have kd := k10.drew
      have hca0 := conv_src (w := w10.drew) (v := .slice aa' (len1 + len2) ca') (bs := b ++ more) (Src.of_owns all10)
      have l12 : len1 + len2 = (b ++ more).length := by rw [List.length_append, HL1.out, HL2.out]
      have l1 : len1 = b.length := HL1.out
      have t1 : decide (X.length < len1) = false := decide_eq_false (by omega)
      have t2 : decide ((X.length : Int) < (len1 : Int)) = false := decide_eq_false (by omega)
      have t3 : decide (len1 + len2 < X.length) = false := decide_eq_false (by omega)
      have t4 : decide ((len1 : Int) + (len2 : Int) < (X.length : Int)) = false := decide_eq_false (by omega)
      clear l12 l1 hz0 hz1 hz2 hi jz0 jz1 jz2 ji hgn hgs hz10 hz9 hz8 hbz hz6' hz5' hz4' hz3' hz2' hz1' k9 hXl hSb hle600 hb1 hb2 hb3
      refine wp_region_held_drew (S := fun w' => (convert 32 9 (.slice aa' (len1 + len2) ca')).run Try.prog w' = .ok (.string ⟨(b ++ more).toArray⟩) w') (by kernel_rfl) hca0 (fun hHeld => ?_)
      refine H_take 0 (some 69) (v := ?v0) rfl rfl (by kernel_rfl) (by kernel_rfl) (by kernel_rfl) (fun _ _ _ h => h) (by rfl) hHeld ?y0 ?r0
      case y0 => (intro W hSw; (try dsimp only at hSw); go_simp <;> with_reducible rfl)
      try simp only [Act.put, List.setIfInBounds_toArray, List.set_cons_zero, List.set_cons_succ]
      refine H_take 3 (some 72) (v := ?v3) rfl rfl (by kernel_rfl) (by kernel_rfl) (by kernel_rfl) (fun _ _ _ h => h) (by rfl) hHeld ?y3 ?r3
      case y3 => (intro W hSw; (try dsimp only at hSw); go_simp <;> with_reducible rfl)
      try simp only [Act.put, List.setIfInBounds_toArray, List.set_cons_zero, List.set_cons_succ]
      refine H_take 4 (some 73) (v := ?v4) rfl rfl (by kernel_rfl) (by kernel_rfl) (by kernel_rfl) (fun _ _ _ h => h) (by rfl) hHeld ?y4 ?r4
      case y4 => (intro W hSw; (try dsimp only at hSw); go_simp <;> with_reducible rfl)
      try simp only [Act.put, List.setIfInBounds_toArray, List.set_cons_zero, List.set_cons_succ]
      -- RUN 1 : Op.call { callee := Callee.value (Operand.func 24), args := #[Operand.tmp 69], argTypes := #[34] }
      refine H_run 1 (some 70) rfl rfl (by kernel_rfl) (by rfl) (fun K hK => ?_)
      go_simp
      refine (bytes_any _ _ _ _ _ kd).mono ?_
      rintro e w11 ⟨vy, rfl, oy, hb11⟩
      have hcv := conv_src (Src.of_owns oy)
      have hca := conv_src (Src.of_owns ((Chg.of_below hb11 (fun _ => False)).owns (a := w10.drew) all10 (fun _ _ h => h)))
      have g11 := g10.drew.below hb11
      refine hK.out _ _ hca (fun hHeld => ?_)
      clear hK
      try simp only [Act.put, List.setIfInBounds_toArray, List.set_cons_zero, List.set_cons_succ]
      -- RUN 2 : Op.convert 32 9 (Operand.tmp 70)
      refine H_run 2 (some 71) rfl rfl (by kernel_rfl) (by rfl) (fun K hK => ?_)
      go_simp
      refine hK.out _ _ hca (fun hHeld => ?_)
      clear hK
      try simp only [Act.put, List.setIfInBounds_toArray, List.set_cons_zero, List.set_cons_succ]
      refine H_take 5 (some 74) (v := ?v5) rfl rfl (by kernel_rfl) (by kernel_rfl) (by kernel_rfl) (fun _ _ _ h => h) (by rfl) hHeld ?y5 ?r5
      case y5 => (intro W hSw; (try dsimp only at hSw); go_simp <;> with_reducible rfl)
      try simp only [Act.put, List.setIfInBounds_toArray, List.set_cons_zero, List.set_cons_succ]
      refine H_take 6 (some 75) (v := ?v6) rfl rfl (by kernel_rfl) (by kernel_rfl) (by kernel_rfl) (fun _ _ _ h => h) (by rfl) hHeld ?y6 ?r6
      case y6 => (intro W hSw; (try dsimp only at hSw); go_simp <;> with_reducible rfl)
      try simp only [Act.put, List.setIfInBounds_toArray, List.set_cons_zero, List.set_cons_succ]
      refine H_take 7 (some 76) (v := ?v7) rfl rfl (by kernel_rfl) (by kernel_rfl) (by kernel_rfl) (fun _ _ _ h => h) (by rfl) hHeld ?y7 ?r7
      case y7 => (intro W hSw; (try dsimp only at hSw); go_simp <;> with_reducible rfl)
      try simp only [Act.put, List.setIfInBounds_toArray, List.set_cons_zero, List.set_cons_succ]
      refine H_take 8 (some 77) (v := ?v8) rfl rfl (by kernel_rfl) (by kernel_rfl) (by kernel_rfl) (fun _ _ _ h => h) (by rfl) hHeld ?y8 ?r8
      case y8 => (intro W hSw; (try dsimp only at hSw); go_simp <;> with_reducible rfl)
      try simp only [Act.put, List.setIfInBounds_toArray, List.set_cons_zero, List.set_cons_succ]
      refine H_take 9 (some 78) (v := ?v9) rfl rfl (by kernel_rfl) (by kernel_rfl) (by kernel_rfl) (fun _ _ _ h => h) (by rfl) hHeld ?y9 ?r9
      case y9 => (intro W hSw; (try dsimp only at hSw); go_simp <;> with_reducible rfl)
      try simp only [Act.put, List.setIfInBounds_toArray, List.set_cons_zero, List.set_cons_succ]
      refine H_take 10 (some 79) (v := ?v10) rfl rfl (by kernel_rfl) (by kernel_rfl) (by kernel_rfl) (fun _ _ _ h => h) (by rfl) hHeld ?y10 ?r10
      case y10 => (intro W hSw; (try dsimp only at hSw); go_simp <;> with_reducible rfl)
      try simp only [Act.put, List.setIfInBounds_toArray, List.set_cons_zero, List.set_cons_succ]
      refine H_take 11 (some 80) (v := ?v11) rfl rfl (by kernel_rfl) (by kernel_rfl) (by kernel_rfl) (fun _ _ _ h => h) (by rfl) hHeld ?y11 ?r11
      case y11 => (intro W hSw; (try dsimp only at hSw); go_simp <;> with_reducible rfl)
      try simp only [Act.put, List.setIfInBounds_toArray, List.set_cons_zero, List.set_cons_succ]
      refine H_take 12 (some 81) (v := ?v12) rfl rfl (by kernel_rfl) (by kernel_rfl) (by kernel_rfl) (fun _ _ _ h => h) (by rfl) hHeld ?y12 ?r12
      case y12 => (intro W hSw; (try dsimp only at hSw); go_simp <;> with_reducible rfl)
      try simp only [Act.put, List.setIfInBounds_toArray, List.set_cons_zero, List.set_cons_succ]
      refine H_take 13 (some 82) (v := ?v13) rfl rfl (by kernel_rfl) (by kernel_rfl) (by kernel_rfl) (fun _ _ _ h => h) (by rfl) hHeld ?y13 ?r13
      case y13 => (intro W hSw; (try dsimp only at hSw); go_simp <;> with_reducible rfl)
      try simp only [Act.put, List.setIfInBounds_toArray, List.set_cons_zero, List.set_cons_succ]
      refine H_take 14 (some 83) (v := ?v14) rfl rfl (by kernel_rfl) (by kernel_rfl) (by kernel_rfl) (fun _ _ _ h => h) (by rfl) hHeld ?y14 ?r14
      case y14 => (intro W hSw; (try dsimp only at hSw); go_simp <;> with_reducible rfl)
      try simp only [Act.put, List.setIfInBounds_toArray, List.set_cons_zero, List.set_cons_succ]
      refine H_take 15 (some 84) (v := ?v15) rfl rfl (by kernel_rfl) (by kernel_rfl) (by kernel_rfl) (fun _ _ _ h => h) (by rfl) hHeld ?y15 ?r15
      case y15 => (intro W hSw; (try dsimp only at hSw); go_simp <;> with_reducible rfl)
      try simp only [Act.put, List.setIfInBounds_toArray, List.set_cons_zero, List.set_cons_succ]
      refine H_take 16 (some 85) (v := ?v16) rfl rfl (by kernel_rfl) (by kernel_rfl) (by kernel_rfl) (fun _ _ _ h => h) (by rfl) hHeld ?y16 ?r16
      case y16 => (intro W hSw; (try dsimp only at hSw); go_simp <;> with_reducible rfl)
      try simp only [Act.put, List.setIfInBounds_toArray, List.set_cons_zero, List.set_cons_succ]
      refine H_take 17 (some 86) (v := ?v17) rfl rfl (by kernel_rfl) (by kernel_rfl) (by kernel_rfl) (fun _ _ _ h => h) (by rfl) hHeld ?y17 ?r17
      case y17 => (intro W hSw; (try dsimp only at hSw); go_simp <;> with_reducible rfl)
      try simp only [Act.put, List.setIfInBounds_toArray, List.set_cons_zero, List.set_cons_succ]
      refine H_take 18 (some 87) (v := ?v18) rfl rfl (by kernel_rfl) (by kernel_rfl) (by kernel_rfl) (fun _ _ _ h => h) (by rfl) hHeld ?y18 ?r18
      case y18 => (intro W hSw; (try dsimp only at hSw); go_simp <;> with_reducible rfl)
      try simp only [Act.put, List.setIfInBounds_toArray, List.set_cons_zero, List.set_cons_succ]
      refine H_take 19 (some 88) (v := ?v19) rfl rfl (by kernel_rfl) (by kernel_rfl) (by kernel_rfl) (fun _ _ _ h => h) (by rfl) hHeld ?y19 ?r19
      case y19 => (intro W hSw; (try dsimp only at hSw); go_simp <;> with_reducible rfl)
      try simp only [Act.put, List.setIfInBounds_toArray, List.set_cons_zero, List.set_cons_succ]
      refine H_take 20 (some 89) (v := ?v20) rfl rfl (by kernel_rfl) (by kernel_rfl) (by kernel_rfl) (fun _ _ _ h => h) (by rfl) hHeld ?y20 ?r20
      case y20 => (intro W hSw; (try dsimp only at hSw); go_simp <;> with_reducible rfl)
      try simp only [Act.put, List.setIfInBounds_toArray, List.set_cons_zero, List.set_cons_succ]
      refine H_take 21 (some 90) (v := ?v21) rfl rfl (by kernel_rfl) (by kernel_rfl) (by kernel_rfl) (fun _ _ _ h => h) (by rfl) hHeld ?y21 ?r21
      case y21 => (intro W hSw; (try dsimp only at hSw); go_simp <;> with_reducible rfl)
      try simp only [Act.put, List.setIfInBounds_toArray, List.set_cons_zero, List.set_cons_succ]
      refine H_take 23 (some 92) (v := ?v23) rfl rfl (by kernel_rfl) (by kernel_rfl) (by kernel_rfl) (fun _ _ _ h => h) (by rfl) hHeld ?y23 ?r23
      case y23 => (intro W hSw; (try dsimp only at hSw); go_simp <;> with_reducible rfl)
      try simp only [Act.put, List.setIfInBounds_toArray, List.set_cons_zero, List.set_cons_succ]
      refine H_take 24 (some 93) (v := ?v24) rfl rfl (by kernel_rfl) (by kernel_rfl) (by kernel_rfl) (fun _ _ _ h => h) (by rfl) hHeld ?y24 ?r24
      case y24 => (intro W hSw; (try dsimp only at hSw); go_simp <;> with_reducible rfl)
      try simp only [Act.put, List.setIfInBounds_toArray, List.set_cons_zero, List.set_cons_succ]
      -- RUN 22 : Op.call { callee := Callee.value (Operand.func 25), args := #[Operand.tmp 90], argTypes := #[34] }
      refine H_run 22 (some 91) rfl rfl (by kernel_rfl) (by rfl) (fun K hK => ?_)
      go_simp
      refine (safe_any _ _ _ _ _ g11).mono ?_
      rintro e w' ⟨rfl, rfl⟩
      refine hK.out _ _ hca (fun hHeld => ?_)
      clear hK
      try simp only [Act.put, List.setIfInBounds_toArray, List.set_cons_zero, List.set_cons_succ]
      refine H_take 25 (some 94) (v := ?v25) rfl rfl (by kernel_rfl) (by kernel_rfl) (by kernel_rfl) (fun _ _ _ h => h) (by rfl) hHeld ?y25 ?r25
      case y25 => (intro W hSw; (try dsimp only at hSw); go_simp <;> with_reducible rfl)
      try simp only [Act.put, List.setIfInBounds_toArray, List.set_cons_zero, List.set_cons_succ]
      refine H_take 26 (some 95) (v := ?v26) rfl rfl (by kernel_rfl) (by kernel_rfl) (by kernel_rfl) (fun _ _ _ h => h) (by rfl) hHeld ?y26 ?r26
      case y26 => (intro W hSw; (try dsimp only at hSw); go_simp <;> with_reducible rfl)
      try simp only [Act.put, List.setIfInBounds_toArray, List.set_cons_zero, List.set_cons_succ]
      refine wpAnyH_done (by kernel_rfl) ?_ _
      have all11 := (Chg.of_below hb11 (fun _ => False)).owns (a := w10.drew) all10 (fun _ _ h => h)
      have got11 := (Chg.of_below hb11 (fun _ => False)).owns (a := w10.drew) og (fun _ _ h => h)
      have B11w : Below w.heap.size w w11 := B10w.drew.trans (hb11.mono B10w.size)
      have hw11 := B11w.size
      clear t1 t2 t3 t4 hcv hca hca0 oy g10 g11 k10 kd all10 og hb11 hHeld
      go_wp2_with fail
      go_loopw [15] (fun i wr => ∃ k : Nat, k ≤ X.length ∧ i = .int .i64 k ∧ Chg (fun _ => False) w11 wr) (fun i _ => X.length - (intOf i).toNat)
      case atStart => exact ⟨0, by omega, rfl, Chg.refl _ _⟩
      case round =>
        obtain ⟨q, hq, rfl, hcq⟩ := hrel
        by_cases hql : q < X.length
        · have hallq := hcq.owns all11 (fun _ _ h => h)
          have hgotq := hcq.owns got11 (fun _ _ h => h)
          have hqall : q < (b ++ more).length := by
            have := HX.out; rw [← this] at hql; unfold crash at hql; rw [crashTo_length] at hql; unfold crashN at hql; rw [List.length_append] at *; omega
          obtain ⟨x, hx⟩ : ∃ x, x = X[q] := ⟨_, rfl⟩
          obtain ⟨y, hy⟩ : ∃ y, y = (b ++ more)[q] := ⟨_, rfl⟩
          have hxy : x = y ∨ (b.length ≤ q ∧ x = 0) := by
            have h1 : X[q]? = some x := by rw [hx]; exact List.getElem?_eq_getElem hql
            have h2 : (b ++ more).getD q 0 = y := by rw [hy, List.getD_eq_getElem?_getD, List.getElem?_eq_getElem hqall]; rfl
            rw [← HX.out] at h1
            unfold crash at h1
            have hn : q < crashN (b ++ more).length b.length size := by
              have := HX.out; rw [← this] at hql; unfold crash at hql; rw [crashTo_length] at hql; exact hql
            rw [crashTo_get hn] at h1
            split at h1
            · rename_i hc; right; cases h1; exact ⟨hc.1, rfl⟩
            · left; cases h1; exact h2
          rcases Src.of_owns hallq with ⟨hv, hn, _⟩ | ⟨ad, c, hv, hcA⟩
          · omega
          obtain ⟨a0, c0', hv2, -, hsA, -, -⟩ := owns_form hallq
          simp only [Value.slice.injEq] at hv hv2
          obtain ⟨rfl, -, -⟩ := hv
          obtain ⟨rfl, -, -⟩ := hv2
          have hcA1 := hcA q (bv y) (by rw [List.getElem?_map, List.getElem?_eq_getElem hqall, ← hy]; rfl)
          rw [(hsA ad rfl).1, Addr.add_lit, Nat.zero_add] at hcA1
          obtain ⟨adb, ado, ads⟩ := ad
          have hadE := (hsA _ rfl).1
          simp at hadE
          obtain ⟨rfl, rfl⟩ := hadE
          rcases Src.of_owns hgotq with ⟨hv, hn, _⟩ | ⟨gd, c, hv, hcG⟩
          · omega
          obtain ⟨a0, c0', hv2, -, hsG, -, -⟩ := owns_form hgotq
          simp only [Value.slice.injEq] at hv hv2
          obtain ⟨rfl, -, -⟩ := hv
          obtain ⟨rfl, -, -⟩ := hv2
          have hcG1 := hcG q (bv x) (by rw [List.getElem?_map, List.getElem?_eq_getElem hql, ← hx]; rfl)
          rw [(hsG gd rfl).1, Addr.add_lit, Nat.zero_add] at hcG1
          obtain ⟨gdb, gdo, gds⟩ := gd
          have hgdE := (hsG _ rfl).1
          simp at hgdE
          obtain ⟨rfl, rfl⟩ := hgdE
          have i0' : (0 : Int) ≤ (q : Int) := Int.natCast_nonneg _
          have i1' : (q : Int) < (X.length : Int) := by omega
          have i2' : (q : Int) < (len1 : Int) + (len2 : Int) := by have := HL1.out; have := HL2.out; rw [List.length_append] at hqall; omega
          have i3' : q < len1 + len2 := by have := HL1.out; have := HL2.out; rw [List.length_append] at hqall; omega
          have hcA2 : wr.cell? ⟨adb, q, none⟩ = some (.int .u8 (y.toNat : Int)) := hcA1
          have hcG2 : wr.cell? ⟨gdb, q, none⟩ = some (.int .u8 (x.toNat : Int)) := hcG1
          have HXY := Lib.hid hxy
          clear hcA1 hcG1 hsA hsG hcA hcG hallq hgotq hxy hx hy hqall
          by_cases hne : x = y
          · subst hne
            go_wp2_with fail
            refine wp_region_held_drew (S := fun w' => w'.cell? ⟨gdb, q, none⟩ = some (.int .u8 (x.toNat : Int)) ∧ w'.cell? ⟨adb, q, none⟩ = some (.int .u8 (x.toNat : Int))) (by kernel_rfl) ⟨hcG2, hcA2⟩ (fun hHeld => ?_)
            refine H_take 0 (some 102) (v := ?vA0) rfl rfl (by kernel_rfl) (by kernel_rfl) (by kernel_rfl) (fun _ _ _ h => h) (by rfl) hHeld ?yA0 ?rA0
            case yA0 => (intro W hSw; (try dsimp only at hSw); go_simp <;> with_reducible rfl)
            try simp only [Act.put, List.setIfInBounds_toArray, List.set_cons_zero, List.set_cons_succ]
            refine H_take 1 (some 103) (v := ?vA1) rfl rfl (by kernel_rfl) (by kernel_rfl) (by kernel_rfl) (fun _ _ _ h => h) (by rfl) hHeld ?yA1 ?rA1
            case yA1 => (intro W hSw; (try dsimp only at hSw); go_simp <;> with_reducible rfl)
            try simp only [Act.put, List.setIfInBounds_toArray, List.set_cons_zero, List.set_cons_succ]
            refine H_take 2 (some 104) (v := ?vA2) rfl rfl (by kernel_rfl) (by kernel_rfl) (by kernel_rfl) (fun _ _ _ h => h) (by rfl) hHeld ?yA2 ?rA2
            case yA2 => (intro W hSw; (try dsimp only at hSw); go_simp <;> with_reducible rfl)
            try simp only [Act.put, List.setIfInBounds_toArray, List.set_cons_zero, List.set_cons_succ]
            refine H_take 3 (some 105) (v := ?vA3) rfl rfl (by kernel_rfl) (by kernel_rfl) (by kernel_rfl) (fun _ _ _ h => h) (by rfl) hHeld ?yA3 ?rA3
            case yA3 => (intro W hSw; (try dsimp only at hSw); go_simp <;> with_reducible rfl)
            try simp only [Act.put, List.setIfInBounds_toArray, List.set_cons_zero, List.set_cons_succ]
            refine H_take 4 (some 106) (v := ?vA4) rfl rfl (by kernel_rfl) (by kernel_rfl) (by kernel_rfl) (fun _ _ _ h => h) (by rfl) hHeld ?yA4 ?rA4
            case yA4 => (intro W hSw; (try dsimp only at hSw); go_simp <;> with_reducible rfl)
            try simp only [Act.put, List.setIfInBounds_toArray, List.set_cons_zero, List.set_cons_succ]
            refine H_take 5 (some 107) (v := ?vA5) rfl rfl (by kernel_rfl) (by kernel_rfl) (by kernel_rfl) (fun _ _ _ h => h) (by rfl) hHeld ?yA5 ?rA5
            case yA5 => (intro W hSw; (try dsimp only at hSw); go_simp <;> with_reducible rfl)
            try simp only [Act.put, List.setIfInBounds_toArray, List.set_cons_zero, List.set_cons_succ]
            refine H_take 6 (some 108) (v := ?vA6) rfl rfl (by kernel_rfl) (by kernel_rfl) (by kernel_rfl) (fun _ _ _ h => h) (by rfl) hHeld ?yA6 ?rA6
            case yA6 => (intro W hSw; (try dsimp only at hSw); go_simp <;> with_reducible rfl)
            try simp only [Act.put, List.setIfInBounds_toArray, List.set_cons_zero, List.set_cons_succ]
            refine H_take 7 (some 109) (v := ?vA7) rfl rfl (by kernel_rfl) (by kernel_rfl) (by kernel_rfl) (fun _ _ _ h => h) (by rfl) hHeld ?yA7 ?rA7
            case yA7 => (intro W hSw; (try dsimp only at hSw); go_simp <;> with_reducible rfl)
            try simp only [Act.put, List.setIfInBounds_toArray, List.set_cons_zero, List.set_cons_succ]
            refine H_take 8 (some 110) (v := ?vA8) rfl rfl (by kernel_rfl) (by kernel_rfl) (by kernel_rfl) (fun _ _ _ h => h) (by rfl) hHeld ?yA8 ?rA8
            case yA8 => (intro W hSw; (try dsimp only at hSw); go_simp <;> with_reducible rfl)
            try simp only [Act.put, List.setIfInBounds_toArray, List.set_cons_zero, List.set_cons_succ]
            refine H_take 9 (some 111) (v := ?vA9) rfl rfl (by kernel_rfl) (by kernel_rfl) (by kernel_rfl) (fun _ _ _ h => h) (by rfl) hHeld ?yA9 ?rA9
            case yA9 => (intro W hSw; (try dsimp only at hSw); go_simp <;> with_reducible rfl)
            try simp only [Act.put, List.setIfInBounds_toArray, List.set_cons_zero, List.set_cons_succ]
            refine H_pass 10 (some 112) rfl rfl (by kernel_rfl) (by kernel_rfl) (by kernel_rfl) (fun _ _ _ h => h) (by rfl) hHeld ?_
            try simp only [Act.put, List.setIfInBounds_toArray, List.set_cons_zero, List.set_cons_succ]
            refine H_pass 11 (some 113) rfl rfl (by kernel_rfl) (by kernel_rfl) (by kernel_rfl) (fun _ _ _ h => h) (by rfl) hHeld ?_
            try simp only [Act.put, List.setIfInBounds_toArray, List.set_cons_zero, List.set_cons_succ]
            refine H_pass 12 (some 114) rfl rfl (by kernel_rfl) (by kernel_rfl) (by kernel_rfl) (fun _ _ _ h => h) (by rfl) hHeld ?_
            try simp only [Act.put, List.setIfInBounds_toArray, List.set_cons_zero, List.set_cons_succ]
            refine H_pass 13 (some 115) rfl rfl (by kernel_rfl) (by kernel_rfl) (by kernel_rfl) (fun _ _ _ h => h) (by rfl) hHeld ?_
            try simp only [Act.put, List.setIfInBounds_toArray, List.set_cons_zero, List.set_cons_succ]
            refine H_pass 14 (some 116) rfl rfl (by kernel_rfl) (by kernel_rfl) (by kernel_rfl) (fun _ _ _ h => h) (by rfl) hHeld ?_
            try simp only [Act.put, List.setIfInBounds_toArray, List.set_cons_zero, List.set_cons_succ]
            refine H_pass 15 (some 117) rfl rfl (by kernel_rfl) (by kernel_rfl) (by kernel_rfl) (fun _ _ _ h => h) (by rfl) hHeld ?_
            try simp only [Act.put, List.setIfInBounds_toArray, List.set_cons_zero, List.set_cons_succ]
            refine H_pass 16 (some 118) rfl rfl (by kernel_rfl) (by kernel_rfl) (by kernel_rfl) (fun _ _ _ h => h) (by rfl) hHeld ?_
            try simp only [Act.put, List.setIfInBounds_toArray, List.set_cons_zero, List.set_cons_succ]
            refine H_pass 17 (some 119) rfl rfl (by kernel_rfl) (by kernel_rfl) (by kernel_rfl) (fun _ _ _ h => h) (by rfl) hHeld ?_
            try simp only [Act.put, List.setIfInBounds_toArray, List.set_cons_zero, List.set_cons_succ]
            refine H_pass 18 (some 120) rfl rfl (by kernel_rfl) (by kernel_rfl) (by kernel_rfl) (fun _ _ _ h => h) (by rfl) hHeld ?_
            try simp only [Act.put, List.setIfInBounds_toArray, List.set_cons_zero, List.set_cons_succ]
            refine H_pass 19 (some 121) rfl rfl (by kernel_rfl) (by kernel_rfl) (by kernel_rfl) (fun _ _ _ h => h) (by rfl) hHeld ?_
            try simp only [Act.put, List.setIfInBounds_toArray, List.set_cons_zero, List.set_cons_succ]
            refine H_pass 20 (some 122) rfl rfl (by kernel_rfl) (by kernel_rfl) (by kernel_rfl) (fun _ _ _ h => h) (by rfl) hHeld ?_
            try simp only [Act.put, List.setIfInBounds_toArray, List.set_cons_zero, List.set_cons_succ]
            refine H_take 21 (some 123) (v := ?vA21) rfl rfl (by kernel_rfl) (by kernel_rfl) (by kernel_rfl) (fun _ _ _ h => h) (by rfl) hHeld ?yA21 ?rA21
            case yA21 => (intro W hSw; (try dsimp only at hSw); go_simp <;> with_reducible rfl)
            try simp only [Act.put, List.setIfInBounds_toArray, List.set_cons_zero, List.set_cons_succ]
            refine wpAnyH_done (by kernel_rfl) ?_ _
            go_wp2_with fail
            go_roundw
            case rel => exact ⟨q + 1, by omega, by go_num, hcq.trans (Chg.drew _ _)⟩
            case measure => simp [intOf]; omega
          · have hx0 : x = 0 := by rcases HXY.out with h | h; exact absurd h hne; exact h.2
            have hbq : b.length ≤ q := by rcases HXY.out with h | h; exact absurd h hne; exact h.1
            have hbq2 : len1 ≤ q := by rw [HL1.out]; exact hbq
            subst hx0
            have n1 : (((0 : UInt8).toNat : Int) != (y.toNat : Int)) = true := by
              rw [bne_iff_ne]; intro h; apply hne; apply UInt8.toNat_inj.1; omega
            have n2 : ((0 : Int) != (y.toNat : Int)) = true := n1
            have n3 : decide ((q : Int) < (len1 : Int)) = false := decide_eq_false (by omega)
            have n4 : decide (q < len1) = false := decide_eq_false (by omega)
            have hcG3 : wr.cell? ⟨gdb, q, none⟩ = some (.int .u8 0) := hcG2
            clear hbq hcG2
            go_wp2_with fail
            refine wp_region_held_drew (S := fun w' => w'.cell? ⟨gdb, q, none⟩ = some (.int .u8 0) ∧ w'.cell? ⟨adb, q, none⟩ = some (.int .u8 (y.toNat : Int))) (by kernel_rfl) ⟨hcG3, hcA2⟩ (fun hHeld => ?_)
            refine H_take 0 (some 102) (v := ?vB0) rfl rfl (by kernel_rfl) (by kernel_rfl) (by kernel_rfl) (fun _ _ _ h => h) (by rfl) hHeld ?yB0 ?rB0
            case yB0 => (intro W hSw; (try dsimp only at hSw); go_simp <;> with_reducible rfl)
            try simp only [Act.put, List.setIfInBounds_toArray, List.set_cons_zero, List.set_cons_succ]
            refine H_take 1 (some 103) (v := ?vB1) rfl rfl (by kernel_rfl) (by kernel_rfl) (by kernel_rfl) (fun _ _ _ h => h) (by rfl) hHeld ?yB1 ?rB1
            case yB1 => (intro W hSw; (try dsimp only at hSw); go_simp <;> with_reducible rfl)
            try simp only [Act.put, List.setIfInBounds_toArray, List.set_cons_zero, List.set_cons_succ]
            refine H_take 2 (some 104) (v := ?vB2) rfl rfl (by kernel_rfl) (by kernel_rfl) (by kernel_rfl) (fun _ _ _ h => h) (by rfl) hHeld ?yB2 ?rB2
            case yB2 => (intro W hSw; (try dsimp only at hSw); go_simp <;> with_reducible rfl)
            try simp only [Act.put, List.setIfInBounds_toArray, List.set_cons_zero, List.set_cons_succ]
            refine H_take 3 (some 105) (v := ?vB3) rfl rfl (by kernel_rfl) (by kernel_rfl) (by kernel_rfl) (fun _ _ _ h => h) (by rfl) hHeld ?yB3 ?rB3
            case yB3 => (intro W hSw; (try dsimp only at hSw); go_simp <;> with_reducible rfl)
            try simp only [Act.put, List.setIfInBounds_toArray, List.set_cons_zero, List.set_cons_succ]
            refine H_take 4 (some 106) (v := ?vB4) rfl rfl (by kernel_rfl) (by kernel_rfl) (by kernel_rfl) (fun _ _ _ h => h) (by rfl) hHeld ?yB4 ?rB4
            case yB4 => (intro W hSw; (try dsimp only at hSw); go_simp <;> with_reducible rfl)
            try simp only [Act.put, List.setIfInBounds_toArray, List.set_cons_zero, List.set_cons_succ]
            refine H_take 5 (some 107) (v := ?vB5) rfl rfl (by kernel_rfl) (by kernel_rfl) (by kernel_rfl) (fun _ _ _ h => h) (by rfl) hHeld ?yB5 ?rB5
            case yB5 => (intro W hSw; (try dsimp only at hSw); go_simp <;> with_reducible rfl)
            try simp only [Act.put, List.setIfInBounds_toArray, List.set_cons_zero, List.set_cons_succ]
            refine H_take 6 (some 108) (v := ?vB6) rfl rfl (by kernel_rfl) (by kernel_rfl) (by kernel_rfl) (fun _ _ _ h => h) (by rfl) hHeld ?yB6 ?rB6
            case yB6 => (intro W hSw; (try dsimp only at hSw); go_simp <;> with_reducible rfl)
            try simp only [Act.put, List.setIfInBounds_toArray, List.set_cons_zero, List.set_cons_succ]
            refine H_take 7 (some 109) (v := ?vB7) rfl rfl (by kernel_rfl) (by kernel_rfl) (by kernel_rfl) (fun _ _ _ h => h) (by rfl) hHeld ?yB7 ?rB7
            case yB7 => (intro W hSw; (try dsimp only at hSw); go_simp <;> with_reducible rfl)
            try simp only [Act.put, List.setIfInBounds_toArray, List.set_cons_zero, List.set_cons_succ]
            refine H_take 8 (some 110) (v := ?vB8) rfl rfl (by kernel_rfl) (by kernel_rfl) (by kernel_rfl) (fun _ _ _ h => h) (by rfl) hHeld ?yB8 ?rB8
            case yB8 => (intro W hSw; (try dsimp only at hSw); go_simp <;> with_reducible rfl)
            try simp only [Act.put, List.setIfInBounds_toArray, List.set_cons_zero, List.set_cons_succ]
            refine H_take 9 (some 111) (v := ?vB9) rfl rfl (by kernel_rfl) (by kernel_rfl) (by kernel_rfl) (fun _ _ _ h => h) (by rfl) hHeld ?yB9 ?rB9
            case yB9 => (intro W hSw; (try dsimp only at hSw); go_simp <;> with_reducible rfl)
            try simp only [Act.put, List.setIfInBounds_toArray, List.set_cons_zero, List.set_cons_succ]
            refine H_take 10 (some 112) (v := ?vB10) rfl rfl (by kernel_rfl) (by kernel_rfl) (by kernel_rfl) (fun _ _ _ h => h) (by rfl) hHeld ?yB10 ?rB10
            case yB10 => (intro W hSw; (try dsimp only at hSw); go_simp <;> with_reducible rfl)
            try simp only [Act.put, List.setIfInBounds_toArray, List.set_cons_zero, List.set_cons_succ]
            refine H_take 11 (some 113) (v := ?vB11) rfl rfl (by kernel_rfl) (by kernel_rfl) (by kernel_rfl) (fun _ _ _ h => h) (by rfl) hHeld ?yB11 ?rB11
            case yB11 => (intro W hSw; (try dsimp only at hSw); go_simp <;> with_reducible rfl)
            try simp only [Act.put, List.setIfInBounds_toArray, List.set_cons_zero, List.set_cons_succ]
            refine H_take 12 (some 114) (v := ?vB12) rfl rfl (by kernel_rfl) (by kernel_rfl) (by kernel_rfl) (fun _ _ _ h => h) (by rfl) hHeld ?yB12 ?rB12
            case yB12 => (intro W hSw; (try dsimp only at hSw); go_simp <;> with_reducible rfl)
            try simp only [Act.put, List.setIfInBounds_toArray, List.set_cons_zero, List.set_cons_succ]
            refine H_take 13 (some 115) (v := ?vB13) rfl rfl (by kernel_rfl) (by kernel_rfl) (by kernel_rfl) (fun _ _ _ h => h) (by rfl) hHeld ?yB13 ?rB13
            case yB13 => (intro W hSw; (try dsimp only at hSw); go_simp <;> with_reducible rfl)
            try simp only [Act.put, List.setIfInBounds_toArray, List.set_cons_zero, List.set_cons_succ]
            refine H_take 14 (some 116) (v := ?vB14) rfl rfl (by kernel_rfl) (by kernel_rfl) (by kernel_rfl) (fun _ _ _ h => h) (by rfl) hHeld ?yB14 ?rB14
            case yB14 => (intro W hSw; (try dsimp only at hSw); go_simp <;> with_reducible rfl)
            try simp only [Act.put, List.setIfInBounds_toArray, List.set_cons_zero, List.set_cons_succ]
            refine H_take 15 (some 117) (v := ?vB15) rfl rfl (by kernel_rfl) (by kernel_rfl) (by kernel_rfl) (fun _ _ _ h => h) (by rfl) hHeld ?yB15 ?rB15
            case yB15 => (intro W hSw; (try dsimp only at hSw); go_simp <;> with_reducible rfl)
            try simp only [Act.put, List.setIfInBounds_toArray, List.set_cons_zero, List.set_cons_succ]
            refine H_take 16 (some 118) (v := ?vB16) rfl rfl (by kernel_rfl) (by kernel_rfl) (by kernel_rfl) (fun _ _ _ h => h) (by rfl) hHeld ?yB16 ?rB16
            case yB16 => (intro W hSw; (try dsimp only at hSw); go_simp <;> with_reducible rfl)
            try simp only [Act.put, List.setIfInBounds_toArray, List.set_cons_zero, List.set_cons_succ]
            refine H_take 17 (some 119) (v := ?vB17) rfl rfl (by kernel_rfl) (by kernel_rfl) (by kernel_rfl) (fun _ _ _ h => h) (by rfl) hHeld ?yB17 ?rB17
            case yB17 => (intro W hSw; (try dsimp only at hSw); go_simp <;> with_reducible rfl)
            try simp only [Act.put, List.setIfInBounds_toArray, List.set_cons_zero, List.set_cons_succ]
            refine H_take 18 (some 120) (v := ?vB18) rfl rfl (by kernel_rfl) (by kernel_rfl) (by kernel_rfl) (fun _ _ _ h => h) (by rfl) hHeld ?yB18 ?rB18
            case yB18 => (intro W hSw; (try dsimp only at hSw); go_simp <;> with_reducible rfl)
            try simp only [Act.put, List.setIfInBounds_toArray, List.set_cons_zero, List.set_cons_succ]
            refine H_take 19 (some 121) (v := ?vB19) rfl rfl (by kernel_rfl) (by kernel_rfl) (by kernel_rfl) (fun _ _ _ h => h) (by rfl) hHeld ?yB19 ?rB19
            case yB19 => (intro W hSw; (try dsimp only at hSw); go_simp <;> with_reducible rfl)
            try simp only [Act.put, List.setIfInBounds_toArray, List.set_cons_zero, List.set_cons_succ]
            refine H_take 20 (some 122) (v := ?vB20) rfl rfl (by kernel_rfl) (by kernel_rfl) (by kernel_rfl) (fun _ _ _ h => h) (by rfl) hHeld ?yB20 ?rB20
            case yB20 => (intro W hSw; (try dsimp only at hSw); go_simp <;> with_reducible rfl)
            try simp only [Act.put, List.setIfInBounds_toArray, List.set_cons_zero, List.set_cons_succ]
            refine H_take 21 (some 123) (v := ?vB21) rfl rfl (by kernel_rfl) (by kernel_rfl) (by kernel_rfl) (fun _ _ _ h => h) (by rfl) hHeld ?yB21 ?rB21
            case yB21 => (intro W hSw; (try dsimp only at hSw); go_simp <;> with_reducible rfl)
            try simp only [Act.put, List.setIfInBounds_toArray, List.set_cons_zero, List.set_cons_succ]
            refine wpAnyH_done (by kernel_rfl) ?_ _
            go_wp2_with fail
            go_roundw
            case rel => exact ⟨q + 1, by omega, by go_num, hcq.trans (Chg.drew _ _)⟩
            case measure => simp [intOf]; omega
        · go_wp2_with fail
          refine (awake08 _).mono ?_
          rintro e w12 ⟨rfl, hb12⟩
          go_wp2
          go_ret
          exact ⟨rfl, (B11w.trans (hcq.below hw11 (fun _ _ h => h.elim))).trans (hb12.mono (Nat.le_trans hw11 hcq.size))⟩
end Go.Proofs.Ytojonlkiokejoaa
