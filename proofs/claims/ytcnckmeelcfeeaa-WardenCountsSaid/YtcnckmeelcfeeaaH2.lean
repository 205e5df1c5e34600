/-
  The walk of WardenCounts: what a Meter counts is what the law counts, and its Mid is the one that the law reckons.
-/
import Derived.Test.YtcnckmeelcfeeaaM3
import Derived.Test.YtcnckmeelcfeeaaLamMid
namespace Go.Proofs.Ytcnckmeelcfeeaa
open Go.RowKit
set_option maxRecDepth 100000

theorem nts_all (ss : List Sp) : ∀ k, k ≤ ss.length → nts ss k 256 = k
  | 0, _ => rfl
  | k + 1, h => by
    rw [nts_snoc (by omega)]
    unfold note noteTo
    rw [if_pos rfl, nts_all ss k (by omega)]; omega


theorem commands_zero (mb T : Nat) (w : World) (h : CntAt w mb T 257 (fun _ => 0)) : Calls Try.prog 19 #[.pointer (some ⟨mb, 0, none⟩)] w fun e w' => e = .returned (.int .i64 0) ∧ w = w' := commands_at mb T _ w h
theorem mid_zero (mb T : Nat) (f t : Int) (w : World) (h : CntAt w mb T 257 (fun _ => 0)) : Calls Try.prog 18 #[.pointer (some ⟨mb, 0, none⟩), .agg #[.int .i64 f, .int .i64 t]] w fun e w' => e = .returned (.int .i64 f) ∧ Below w.heap.size w w' :=
  (mid_any mb T _ f t w h (fun _ _ => Int.le_refl _) (fun _ _ => by decide)).mono fun e w' ⟨r, he, hr, hb⟩ => ⟨by rw [he, mid_none hr], hb⟩

set_option maxHeartbeats 4000000 in
theorem counts_walk (D : Nat → Prop) (v : Value) (ss : List Sp) (fi ti : Int) (w : World) (h : Rd D w 2 v (srows ss)) : Calls Try.prog 5 #[v, .agg #[.int .i64 fi, .int .i64 ti]] w fun e w' => e = .returned (.bool true) ∧ Below w.heap.size w w' := by
  obtain ⟨A, cp, rfl, hl, -⟩ := id h
  rw [srows_length] at h hl ⊢
  have hsp := h.spans.2.2
  have HS := Lib.hid hsp; clear hsp h
  obtain ⟨zs, hz1, hz2, hmk⟩ := Try.made256
  have HZ : Hid (∀ W : World, CntAt (W.alloc (.cells zs 3)) W.heap.size 3 256 (fun _ => 0)) := fun W => ⟨_, block_new W _ rfl, hz1, hz2⟩
  clear hz1 hz2
  go_enter Try.func5, Try.ntmps5
  go_upto_block 0 with fail
  go_cut [7] from 8 to 54 (fun n wx => ∃ c : Nat → Int, Hid (∀ j, 0 ≤ c j ∧ c j ≤ 200) ∧ n = .int .i64 (c 256) ∧ CntAt wx (w.heap.size + 1) 33 257 c ∧ CntAt wx (w.heap.size + 2) 3 256 c ∧ wx.heap[w.heap.size]? = some (.cells [.int .i64 fi, .int .i64 ti].toArray 36 (0, 0)) ∧ Below w.heap.size w wx)
  case first =>
    have hi0 := block_old (.cells zs 3) (block_old (.cells Try.zeroCells33 33) (block_new w (.cells [.int .i64 fi, .int .i64 ti].toArray 36) rfl))
    have hm0 := (meter_new (w.alloc (.cells [.int .i64 fi, .int .i64 ti].toArray 36))).below ((Below.refl _ _).alloc (Nat.le_refl _) (.cells zs 3))
    have hc0 := HZ.out ((w.alloc (.cells [.int .i64 fi, .int .i64 ti].toArray 36)).alloc (.cells Try.zeroCells33 33))
    rw [show ((w.alloc (.cells [.int .i64 fi, .int .i64 ti].toArray 36)).alloc (.cells Try.zeroCells33 33)).heap.size = w.heap.size + 2 by simp] at hc0
    rw [show (w.alloc (.cells [.int .i64 fi, .int .i64 ti].toArray 36)).heap.size = w.heap.size + 1 by simp] at hm0
    have hB0 : Below w.heap.size w (((w.alloc (.cells [.int .i64 fi, .int .i64 ti].toArray 36)).alloc (.cells Try.zeroCells33 33)).alloc (.cells zs 3)) := (((Below.refl _ _).alloc (Nat.le_refl _) _).alloc (by simp) _).alloc (by simp; omega) _
    have HM0 := Lib.hid hm0; have HC0 := Lib.hid hc0; have HB0 := Lib.hid hB0; have HI0 := Lib.hid hi0
    clear hm0 hc0 hB0 hmk hi0
    go_wp2
    go_loopw [7, 21] (fun n i wr => ∃ k : Nat, k ≤ ss.length ∧ k ≤ 200 ∧ i = .int .i64 k ∧ n = .int .i64 k ∧ CntAt wr (w.heap.size + 1) 33 257 (nts ss k) ∧ CntAt wr (w.heap.size + 2) 3 256 (nts ss k) ∧ wr.heap[w.heap.size]? = some (.cells [.int .i64 fi, .int .i64 ti].toArray 36 (0, 0)) ∧ Below w.heap.size w wr) (fun _ i _ => ss.length - (intOf i).toNat)
    case atStart => exact ⟨0, Nat.zero_le _, by omega, rfl, rfl, HM0.out, HC0.out, HI0.out, HB0.out⟩
    case round =>
      obtain ⟨k, hk, hk2, rfl, rfl, hm, hc, hi, hB⟩ := hrel
      obtain ⟨wo, hwo⟩ : ∃ wo : World, wo = wr := ⟨_, rfl⟩
      subst hwo
      have HM := Lib.hid hm; have HC := Lib.hid hc; have HB := Lib.hid hB; have HI := Lib.hid hi
      clear hm hc hB hi
      by_cases hlt : k < ss.length
      · obtain ⟨b, off, rfl, hD, hb, hf, ht⟩ := HS.out (by omega)
        have q0 := (HB.out.cell (p := ⟨b, off + k * 2, none⟩) hb).trans (hf k hlt)
        have q1 := (HB.out.cell (p := ⟨b, off + k * 2 + 1, none⟩) hb).trans (ht k hlt)
        clear hf ht
        by_cases h200 : k < 200
        · have hsn := Lib.hid (nts_snoc hlt)
          have hbd := nts_bd ss k hk
          generalize nts ss k = c at *
          generalize nth ss k = s at *
          obtain ⟨f, t⟩ := s
          dsimp only at q0 q1
          have hc0 : Hid (∀ j, 0 ≤ c j ∧ c j ≤ 200) := fun j => by have := hbd j; omega
          clear hbd
          go_wp2_with fail
          refine (note_any (w.heap.size + 1) 33 c f t _ (HM.out.below ((Below.refl _ _).alloc (Nat.le_refl _) _)) (fun j _ => (hc0.out j).1) (fun j _ => by have := (hc0.out j).2; omega)).mono ?_
          rintro e w1 ⟨rfl, hm1, hmod1⟩
          have hz1 := hmod1.size
          simp at hz1
          have hwz := HM.out.lt
          have hcz := HC.out.lt
          have k1 : w1.heap[wo.heap.size]? = some (.cells [.int .i64 f, .int .i64 t].toArray 36 (0, 0)) := (hmod1.block _ (by simp) (by omega)).trans (block_new wo _ rfl)
          have hi1 : w1.heap[w.heap.size]? = some (.cells [.int .i64 fi, .int .i64 ti].toArray 36 (0, 0)) := (hmod1.block _ (by simp; omega) (by omega)).trans (block_old _ HI.out)
          have hc1 := ((HC.out.below ((Below.refl _ _).alloc (Nat.le_refl _) (.cells [.int .i64 f, .int .i64 t].toArray 36))).mods hmod1 (by omega)).congr (noteTo_zero (f := f) (t := t))
          have hB1 : Below w.heap.size w w1 := (HB.out.alloc HB.out.size _).trans (hmod1.below (Nat.le_trans HB.out.size (by simp)) (fun x _ h => by omega))
          have HM1 := Lib.hid hm1; have HK1 := Lib.hid k1; have HC1 := Lib.hid hc1; have HB1 := Lib.hid hB1; have HI1 := Lib.hid hi1
          clear hm1 k1 hc1 hB1 hmod1 hi1
          go_wp2
          go_loopw [10, 34] (fun _ i wr => ∃ m : Nat, m ≤ 256 ∧ i = .int .i64 m ∧ CntAt wr (w.heap.size + 2) 3 256 (noteTo c f t m) ∧ Mods (fun g => g = w.heap.size + 2) w1 wr) (fun _ i _ => 256 - (intOf i).toNat)
          case atStart => exact ⟨0, by omega, rfl, HC1.out, Mods.refl _ _⟩
          case round =>
            obtain ⟨m, hm, rfl, hcm, hmm⟩ := hrel
            obtain ⟨wi, hwi⟩ : ∃ wi : World, wi = wr := ⟨_, rfl⟩
            subst hwi
            have k2 := (hmm.block _ (lt_of_block HK1.out) (by omega)).trans HK1.out
            have r0 := cell_block k2 0 _ rfl
            have r1 := cell_block k2 1 _ rfl
            have HMM := Lib.hid hmm; clear hmm k2
            by_cases hm2 : m < 256
            · have q := hcm.cell (k := m) hm2
              have fq := hcm.free m
              rw [noteTo_at hm2] at q
              have hcb := hc0.out m
              have hcb1 := hcb.1
              have hcb2 := hcb.2
              clear hcb
              by_cases hin : f ≤ (m : Int) ∧ (m : Int) < t
              · obtain ⟨hin1, hin2⟩ := hin
                have HCS := Lib.hid ((hcm.set (k := m) hm2 (c m + 1)).congr (fun j hj => noteTo_step hin1 hin2 hm2 j (by omega)))
                have HMS : Hid (Mods (fun g => g = w.heap.size + 2) w1 (wi.setCell ⟨w.heap.size + 2, m, none⟩ (.int .i64 (c m + 1)))) := HMM.out.trans (Mods.setCell (S := fun g => g = w.heap.size + 2) wi (p := ⟨w.heap.size + 2, m, none⟩) rfl _) (fun _ _ h => h)
                clear hcm
                go_wp2
                exact ⟨⟨m + 1, by omega, by go_num, HCS.out, HMS.out⟩, by simp [intOf]; omega⟩
              · have HCS := Lib.hid (hcm.congr (noteTo_skip hin))
                clear hcm
                by_cases hin1 : f ≤ (m : Int)
                · have hin2 : t ≤ (m : Int) := by omega
                  clear hin
                  go_wp2
                  exact ⟨⟨m + 1, by omega, by go_num, HCS.out, HMM.out⟩, by simp [intOf]; omega⟩
                · clear hin
                  go_wp2
                  exact ⟨⟨m + 1, by omega, by go_num, HCS.out, HMM.out⟩, by simp [intOf]; omega⟩
            · obtain rfl : m = 256 := by omega
              have HCS := Lib.hid hcm; clear hcm q0 q1
              go_wp2
              refine ⟨⟨k + 1, by omega, by omega, by go_num, by go_num, ?_, ?_, (HMM.out.block _ (lt_of_block HI1.out) (by omega)).trans HI1.out, HB1.out.trans (HMM.out.below HB1.out.size (fun x _ h => by omega))⟩, by simp [intOf]; omega⟩
              · rw [hsn.out]; exact HM1.out.mods HMM.out (by omega)
              · rw [hsn.out]; exact HCS.out
        · go_wp2
          go_meet
          exact ⟨nts ss k, fun j => by have := nts_bd ss k hk j; omega, by rw [nts_all ss k hk], HM.out.below ((Below.refl _ _).alloc (Nat.le_refl _) _), HC.out.below ((Below.refl _ _).alloc (Nat.le_refl _) _), block_old _ HI.out, HB.out.alloc HB.out.size _⟩
      · go_wp2
        go_meet
        exact ⟨nts ss k, fun j => by have := nts_bd ss k hk j; omega, by rw [nts_all ss k hk], HM.out, HC.out, HI.out, HB.out⟩
  case rest =>
    obtain ⟨c, hbd, rfl, hm, hc, hi, hB⟩ := hcut
    clear hmk
    have i0 := cell_block hi 0 _ rfl
    have i1 := cell_block hi 1 _ rfl
    have HM := Lib.hid hm; have HC := Lib.hid hc; have HB := Lib.hid hB; have HI := Lib.hid hi
    clear hm hc hB hi
    obtain ⟨AL, hAL⟩ : ∃ x : Int, sumIf (pin fi ti) c 256 = x := ⟨_, rfl⟩
    have hALb := sumIf_bd (p := pin fi ti) (c := c) 200 (by omega) (b := 256) (by omega) hbd.out
    rw [hAL] at hALb
    have hAL2 : 0 ≤ AL ∧ AL ≤ 60000 := by omega
    have HAL := Lib.hid hAL; clear hAL hALb
    go_wp2
    go_region
    go_wp2
    go_loop [11, 15, 59] (fun s _ i => ∃ m : Nat, m ≤ 256 ∧ i = .int .i64 m ∧ s = .int .i64 (sumIf (pin fi ti) c m)) (fun _ _ i => 256 - (intOf i).toNat)
    case atStart => exact ⟨0, by omega, rfl, rfl⟩
    case round =>
      obtain ⟨m, hm, rfl, rfl⟩ := hrel
      have d1 := sumIf_bd (p := pin fi ti) (c := c) 200 (by omega) (b := m) hm hbd.out
      by_cases hm2 : m < 256
      · have q := HC.out.cell (k := m) hm2
        have hcm := hbd.out m
        have e1 : Hid (sumIf (pin fi ti) c (m + 1) = sumIf (pin fi ti) c m + (if pin fi ti (m : Int) = true then c m else 0)) := rfl
        generalize sumIf (pin fi ti) c m = s1 at *
        have d4 : 0 ≤ s1 ∧ s1 ≤ 60000 ∧ 0 ≤ c m ∧ c m ≤ 200 := by omega
        clear d1 hcm
        obtain ⟨g1, g2, g3, g4⟩ := d4
        by_cases h1 : fi ≤ (m : Int)
        · by_cases h2 : (m : Int) < ti
          · have e2 := Lib.hid (e1.out.trans (by rw [if_pos (pin_iff.2 ⟨h1, h2⟩)]))
            go_wp2
            exact ⟨⟨m + 1, by omega, by go_num, by rw [e2.out]⟩, by simp [intOf]; omega⟩
          · have e2 := Lib.hid (e1.out.trans (by rw [if_neg (fun h => h2 (pin_iff.1 h).2), Int.add_zero]))
            go_wp2
            exact ⟨⟨m + 1, by omega, by go_num, by rw [e2.out]⟩, by simp [intOf]; omega⟩
        · have e2 := Lib.hid (e1.out.trans (by rw [if_neg (fun h => h1 (pin_iff.1 h).1), Int.add_zero]))
          go_wp2
          exact ⟨⟨m + 1, by omega, by go_num, by rw [e2.out]⟩, by simp [intOf]; omega⟩
      · obtain rfl : m = 256 := by omega
        rw [HAL.out]
        clear d1
        go_wp2
        go_loop [12, 13, 14, 16, 81] (fun p md fd _ i => ∃ m : Nat, m ≤ 256 ∧ i = .int .i64 m ∧ LRun c fi ti m p md fd) (fun _ _ _ _ i => 256 - (intOf i).toNat)
        case atStart => exact ⟨0, by omega, rfl, LRun.start c fi ti⟩
        case round =>
          obtain ⟨m, hm', rfl, hrun⟩ := hrel
          by_cases hm3 : m < 256
          · have q := HC.out.cell (k := m) hm3
            have hcm := hbd.out m
            have d1 := sumIf_bd (p := pin fi ti) (c := c) 200 (by omega) (b := m) hm' hbd.out
            have e1 : Hid (sumIf (pin fi ti) c (m + 1) = sumIf (pin fi ti) c m + (if pin fi ti (m : Int) = true then c m else 0)) := rfl
            rcases hrun with ⟨rfl, rfl, rfl, hno⟩ | ⟨rfl, kk, x, rfl, rfl, hk1, hk2, hk3, hk4, hk5⟩
            · rw [HAL.out] at hno ⊢
              have Hno := Lib.hid hno; clear hno
              obtain ⟨s1, hs1⟩ : ∃ s, sumIf (pin fi ti) c m = s := ⟨_, rfl⟩
              rw [hs1] at d1 ⊢
              have e1' := e1.out
              rw [hs1] at e1'
              have E1 := Lib.hid e1'; have HS1 := Lib.hid hs1; clear e1' hs1 e1
              have d4 : 0 ≤ s1 ∧ s1 ≤ 60000 ∧ 0 ≤ c m ∧ c m ≤ 200 := by omega
              clear d1 hcm
              obtain ⟨g1, g2, g3, g4⟩ := d4
              have hskip : ∀ (hp : ¬ pin fi ti (m : Int) = true), LRun c fi ti (m + 1) (.int .i64 (if 0 < AL then s1 else 0)) (.int .i64 fi) (.bool false) := fun hp => .inl ⟨rfl, rfl, by rw [HAL.out, E1.out, if_neg hp, Int.add_zero], by
                rw [HAL.out]
                intro j hj hpj h3
                rcases Nat.lt_or_ge j m with h4 | h4
                · exact Hno.out j h4 hpj h3
                · obtain rfl : j = m := by omega
                  exact hp hpj⟩
              have Hskip := Lib.hid hskip; clear hskip
              by_cases h1 : fi ≤ (m : Int)
              · by_cases h2 : (m : Int) < ti
                · have hp : Hid (pin fi ti (m : Int) = true) := pin_iff.2 ⟨h1, h2⟩
                  by_cases h0 : 0 < AL
                  · rw [if_pos h0]
                    have e3 := Lib.hid (E1.out.trans (by rw [if_pos hp.out]))
                    by_cases h5 : AL ≤ 2 * (s1 + c m)
                    · go_wp2
                      refine ⟨⟨m + 1, by omega, by go_num, .inr ⟨rfl, m, s1 + c m, rfl, rfl, by omega, hp.out, ?_⟩⟩, by simp [intOf]; omega⟩
                      rw [HAL.out, e3.out]
                      refine ⟨h0, h5, fun j hj hpj => ?_⟩
                      have := Hno.out j hj hpj
                      omega
                    · have h6 : 2 * (s1 + c m) < AL := by omega
                      clear h5
                      go_wp2
                      refine ⟨⟨m + 1, by omega, by go_num, .inl ⟨rfl, rfl, by rw [HAL.out, if_pos h0, e3.out], ?_⟩⟩, by simp [intOf]; omega⟩
                      rw [HAL.out]
                      intro j hj hpj h3
                      rcases Nat.lt_or_ge j m with h4 | h4
                      · exact Hno.out j h4 hpj h3
                      · obtain rfl : j = m := by omega
                        rw [e3.out] at h3; omega
                  · rw [if_neg h0]
                    go_wp2
                    refine ⟨⟨m + 1, by omega, by go_num, .inl ⟨rfl, rfl, by rw [HAL.out, if_neg h0], ?_⟩⟩, by simp [intOf]; omega⟩
                    rw [HAL.out]
                    exact fun j _ _ h3 => h0 h3.1
                · have hs := Lib.hid (Hskip.out (fun h => h2 (pin_iff.1 h).2))
                  clear Hskip
                  generalize (if 0 < AL then s1 else 0) = pv at *
                  go_wp2
                  exact ⟨⟨m + 1, by omega, by go_num, hs.out⟩, by simp [intOf]; omega⟩
              · have hs := Lib.hid (Hskip.out (fun h => h1 (pin_iff.1 h).1))
                clear Hskip
                generalize (if 0 < AL then s1 else 0) = pv at *
                go_wp2
                exact ⟨⟨m + 1, by omega, by go_num, hs.out⟩, by simp [intOf]; omega⟩
            · have hgo : Hid (LRun c fi ti (m + 1) (.int .i64 x) (.int .i64 kk) (.bool true)) := .inr ⟨rfl, kk, x, rfl, rfl, by omega, hk2, hk3, hk4, hk5⟩
              rw [HAL.out] at hk3
              clear hk1 hk2 hk4 hk5 d1 hcm e1
              by_cases h1 : fi ≤ (m : Int)
              · by_cases h2 : (m : Int) < ti
                · go_wp2
                  exact ⟨⟨m + 1, by omega, by go_num, hgo.out⟩, by simp [intOf]; omega⟩
                · go_wp2
                  exact ⟨⟨m + 1, by omega, by go_num, hgo.out⟩, by simp [intOf]; omega⟩
              · go_wp2
                exact ⟨⟨m + 1, by omega, by go_num, hgo.out⟩, by simp [intOf]; omega⟩
          · obtain rfl : m = 256 := by omega
            obtain ⟨md, x, fb, rfl, rfl, rfl, hmid⟩ := hrun.end_
            clear hrun
            have Hmid := Lib.hid hmid; clear hmid
            go_wp2_with fail
            refine (commands_at (w.heap.size + 1) 33 c _ HM.out.drew).mono ?_
            rintro e w2 ⟨rfl, hw2⟩
            subst hw2
            go_wp2_with fail
            refine (mid_any (w.heap.size + 1) 33 c fi ti _ HM.out.drew (fun j _ => (hbd.out j).1) (fun j _ => by have := (hbd.out j).2; omega)).mono ?_
            rintro e w2 ⟨r, rfl, hr, hb2⟩
            obtain rfl := mid_unique hr Hmid.out
            clear hr Hmid
            have HM2 := Lib.hid (HM.out.drew.below hb2)
            have HI2 := Lib.hid ((hb2.block _ (lt_of_block HI.out)).trans HI.out)
            have HB2 : Hid (Below w.heap.size w w2) := bnext HB.out.drew hb2
            clear hb2
            go_wp2_with fail
            refine (clear_at (w.heap.size + 1) c _ HM2.out).mono ?_
            rintro e w3 ⟨rfl, hz3, hm3'⟩
            have hi3 := (hm3'.block _ (lt_of_block HI2.out) (by omega)).trans HI2.out
            have HZ3 := Lib.hid hz3
            have HB3 : Hid (Below w.heap.size w w3) := HB2.out.trans (hm3'.below HB2.out.size (fun x _ h => by omega))
            have HI3 := Lib.hid hi3
            have j0 := cell_block hi3 0 _ rfl
            have j1 := cell_block hi3 1 _ rfl
            clear hz3 hm3' hi3
            go_wp2_with fail
            refine (note_nil fi ti _).mono ?_
            rintro e w4 ⟨rfl, hb4⟩
            have hi4 := (hb4.block _ (lt_of_block HI3.out)).trans HI3.out
            have HZ4 := Lib.hid (HZ3.out.below hb4)
            have HB4 : Hid (Below w.heap.size w w4) := bnext HB3.out hb4
            have l0 := cell_block hi4 0 _ rfl
            have l1 := cell_block hi4 1 _ rfl
            clear hb4 hi4
            go_wp2_with fail
            refine (clear_nil _).mono ?_
            rintro e w5 ⟨rfl, hw5⟩
            subst hw5
            go_wp2_with fail
            have hz4 := HZ4.out
            go_region_held3 (fun w' => w'.cell? ⟨w.heap.size, 0, none⟩ = some (.int .i64 fi) ∧ w'.cell? ⟨w.heap.size, 1, none⟩ = some (.int .i64 ti) ∧ CntAt w' (w.heap.size + 1) 33 257 (fun _ => 0))
              (first | (go_keep; done) | (go_split_ands; exact ⟨by assumption, by assumption, by assumption⟩) | (go_split_ands; exact ⟨keepc hb8 (by assumption), keepc hb8 (by assumption), CntAt.below (by assumption) hb8⟩) | (go_split_ands; exact ⟨keepc hb7 (by assumption), keepc hb7 (by assumption), CntAt.below (by assumption) hb7⟩) | (go_split_ands; exact ⟨keepc hb6 (by assumption), keepc hb6 (by assumption), CntAt.below (by assumption) hb6⟩))
              (first
                | (go_at_call 19; ((with_reducible refine (commands_zero (w.heap.size + 1) 33 _ ?ha).mono ?_); (case ha => go_split_ands; assumption); rintro e w6 ⟨rfl, rfl⟩))
                | (go_at_call 19; ((with_reducible refine (commands_nil _).mono ?_); rintro e w6 ⟨rfl, rfl⟩))
                | (go_at_call 18; ((with_reducible refine (mid_zero (w.heap.size + 1) 33 fi ti _ ?ha).mono ?_); (case ha => go_split_ands; assumption); rintro e w6 ⟨rfl, hb6⟩))
                | (go_at_call 18; ((with_reducible refine (mid_nil fi ti _).mono ?_); rintro e w7 ⟨rfl, hb7⟩))
                | (go_at_call 16; ((with_reducible refine (lives12 _).mono ?_); rintro e w8 ⟨rfl, hb8⟩)))
            go_wp2
            go_ret
            exact ⟨rfl, bnext (bnext (bnext HB4.out.drew hb6) hb7) hb8⟩
end Go.Proofs.Ytcnckmeelcfeeaa
