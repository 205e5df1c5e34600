/-
  Contract: a Meter's Mid.
-/
import Derived.Test.YtcnckmeelcfeeaaM1
namespace Go.Proofs.Ytcnckmeelcfeeaa
open Go.RowKit
set_option maxRecDepth 100000

theorem mid_nil (f t : Int) (w : World) : Calls Try.prog 18 #[.pointer none, .agg #[.int .i64 f, .int .i64 t]] w fun e w' => e = .returned (.int .i64 f) ∧ Below w.heap.size w w' := by
  go_enter Try.func18, Try.ntmps18
  go_wp2
  go_ret
  exact ⟨rfl, (Below.refl _ _).alloc (Nat.le_refl _) _⟩

set_option maxHeartbeats 2000000 in
theorem mid_any (mb T : Nat) (c : Nat → Int) (f t : Int) (w : World) (h : CntAt w mb T 257 c) (h0 : ∀ j, j < 257 → 0 ≤ c j) (h1 : ∀ j, j < 257 → c j ≤ 1000000) :
    Calls Try.prog 18 #[.pointer (some ⟨mb, 0, none⟩), .agg #[.int .i64 f, .int .i64 t]] w fun e w' => ∃ r, e = .returned (.int .i64 r) ∧ MidIs c f t r ∧ Below w.heap.size w w' := by
  have hmb := h.lt
  have H := Lib.hid h; clear h
  have H0 := Lib.hid h0; have H1 := Lib.hid h1; clear h0 h1
  obtain ⟨a, ha⟩ : ∃ a : Int, a = max f 0 := ⟨_, rfl⟩
  obtain ⟨b, hb⟩ : ∃ b : Int, b = min t 256 := ⟨_, rfl⟩
  have ha2 : 0 ≤ a ∧ f ≤ a ∧ (a = f ∨ a = 0) := by omega
  have hb2 : b ≤ t ∧ b ≤ 256 := by omega
  obtain ⟨al, hal⟩ : ∃ al : Int, sumTo c a b.toNat = al := ⟨_, rfl⟩
  have hab := sumTo_bd (c := c) (a := a) 1000000 (by omega) (b := b.toNat) (by omega) H0.out H1.out
  have hal2 : 0 ≤ al ∧ al ≤ 256000000 := by omega
  have HAL := Lib.hid hal; clear hal hab
  have HA : Hid (max f 0 = a ∧ min t 256 = b) := ⟨ha.symm, hb.symm⟩
  go_enter Try.func18, Try.ntmps18
  go_upto_region 3 with fail
  go_cut [5, 6] from 15 to 20 (fun x y wx => x = .int .i64 a ∧ y = .int .i64 b ∧ CntAt wx mb T 257 c ∧ Below w.heap.size w wx ∧ wx.heap[w.heap.size]? = some (.cells [.int .i64 f, .int .i64 t].toArray 36 (0, 0)))
  case first =>
    have hk := block_new w (.cells [.int .i64 f, .int .i64 t].toArray 36) rfl
    have HC := Lib.hid (H.out.below ((Below.refl _ _).alloc (Nat.le_refl _) (.cells [.int .i64 f, .int .i64 t].toArray 36)))
    have HK := Lib.hid hk
    have HB := Lib.hid ((Below.refl w.heap.size w).alloc (Nat.le_refl _) (.cells [.int .i64 f, .int .i64 t].toArray 36)).drew
    have q0 := cell_block hk 0 _ rfl
    have q1 := cell_block hk 1 _ rfl
    clear hk
    by_cases hf : f < 0
    all_goals
      by_cases ht : 256 < t
      all_goals
        have ea : a = (if f < 0 then 0 else f) := by rw [ha]; omega
        have eb : b = (if 256 < t then 256 else t) := by rw [hb]; omega
        first | rw [if_pos hf] at ea | rw [if_neg hf] at ea
        first | rw [if_pos ht] at eb | rw [if_neg ht] at eb
        clear ha hb
        subst ea eb
        go_region
        go_wp2
        go_meet
        exact ⟨rfl, rfl, HC.out, HB.out, HK.out⟩
  case rest =>
    obtain ⟨rfl, rfl, hc, hB, hk⟩ := hcut
    clear ha hb
    have HC := Lib.hid hc; have HB := Lib.hid hB
    have s0 := cell_block hk 0 _ rfl
    clear hc hB hk
    go_wp2
    go_loop [7, 8] (fun s i => ∃ x : Int, a ≤ x ∧ (x = a ∨ x ≤ b) ∧ i = .int .i64 x ∧ s = .int .i64 (sumTo c a x.toNat)) (fun _ i => (256 - intOf i).toNat)
    case atStart => exact ⟨a, Int.le_refl _, .inl rfl, rfl, by rw [sumTo_zero (by omega)]⟩
    case round =>
      obtain ⟨x, hx, hxb, rfl, rfl⟩ := hrel
      obtain ⟨k, rfl⟩ := Int.eq_ofNat_of_zero_le (show 0 ≤ x by omega)
      rw [Int.toNat_natCast]
      by_cases hlt : (k : Int) < b
      · have q := HC.out.cell (k := k) (by omega)
        have l1 := H0.out k (by omega)
        have u1 := H1.out k (by omega)
        have hbd := sumTo_bd (c := c) (a := a) 1000000 (by omega) (b := k) (by omega) H0.out H1.out
        have hk256 : k < 256 := by omega
        have hst := Lib.hid (sumTo_step (c := c) (a := a) (b := k) hx)
        generalize sumTo c a k = s at *
        have hs2 : 0 ≤ s ∧ s ≤ 256000000 := by omega
        clear hbd
        go_wp2
        exact ⟨⟨(k : Int) + 1, by omega, .inr (by omega), by go_num, by rw [show ((k : Int) + 1).toNat = k + 1 by omega, hst.out]⟩, by simp [intOf]; omega⟩
      · have hfin : sumTo c a k = al := by
          rw [← HAL.out]
          rcases hxb with h | h
          · rw [sumTo_zero (by omega), sumTo_zero (by omega)]
          · rw [show b.toNat = k by omega]
        rw [hfin]
        clear hfin
        go_wp2
        go_loop [9, 10] (fun s i => ∃ x : Int, a ≤ x ∧ (x = a ∨ x ≤ b) ∧ i = .int .i64 x ∧ s = .int .i64 (sumTo c a x.toNat) ∧ Hid (∀ j : Nat, a ≤ (j : Int) → (j : Int) < x → ¬ (0 < al ∧ al ≤ 2 * sumTo c a (j + 1)))) (fun _ i => (256 - intOf i).toNat)
        case atStart => exact ⟨a, Int.le_refl _, .inl rfl, rfl, by rw [sumTo_zero (by omega)], fun j h1 h2 => by omega⟩
        case round =>
          obtain ⟨x, hx', hxb', rfl, rfl, hno⟩ := hrel
          obtain ⟨m, rfl⟩ := Int.eq_ofNat_of_zero_le (show 0 ≤ x by omega)
          rw [Int.toNat_natCast]
          by_cases hlt2 : (m : Int) < b
          · have q := HC.out.cell (k := m) (by omega)
            have l1 := H0.out m (by omega)
            have u1 := H1.out m (by omega)
            have hbd := sumTo_bd (c := c) (a := a) 1000000 (by omega) (b := m) (by omega) H0.out H1.out
            have hm256 : m < 256 := by omega
            have hst := Lib.hid (sumTo_step (c := c) (a := a) (b := m) hx')
            generalize sumTo c a m = s at *
            have hs2 : 0 ≤ s ∧ s ≤ 256000000 := by omega
            clear hbd
            by_cases hret : 0 < al ∧ al ≤ 2 * (s + c m)
            · obtain ⟨hr1, hr2⟩ := hret
              go_wp2
              go_ret
              refine ⟨(m : Int), rfl, .inl ⟨m, rfl, ?_⟩, HB.out⟩
              rw [HA.out.1, HA.out.2, HAL.out, hst.out]
              refine ⟨hx', hlt2, hr1, hr2, fun j h1 h2 => ?_⟩
              have := hno.out j h1 (by omega)
              omega
            · have hno2 : Hid (∀ j : Nat, a ≤ (j : Int) → (j : Int) < (m : Int) + 1 → ¬ (0 < al ∧ al ≤ 2 * sumTo c a (j + 1))) := fun j h1 h2 h3 => by
                rcases Int.lt_or_le (j : Int) m with h4 | h4
                · exact hno.out j h1 h4 h3
                · obtain rfl : j = m := by omega
                  rw [hst.out] at h3
                  exact hret h3
              by_cases hal0 : 0 < al
              · have hr2 : 2 * (s + c m) < al := by omega
                clear hret
                go_wp2
                exact ⟨⟨(m : Int) + 1, by omega, .inr (by omega), by go_num, by rw [show ((m : Int) + 1).toNat = m + 1 by omega, hst.out], hno2⟩, by simp [intOf]; omega⟩
              · clear hret
                go_wp2
                exact ⟨⟨(m : Int) + 1, by omega, .inr (by omega), by go_num, by rw [show ((m : Int) + 1).toNat = m + 1 by omega, hst.out], hno2⟩, by simp [intOf]; omega⟩
          · go_wp2
            go_ret
            refine ⟨f, rfl, .inr ⟨rfl, ?_⟩, HB.out⟩
            rw [HA.out.1, HA.out.2, HAL.out]
            intro j h1 h2
            exact hno.out j h1 (by omega)
end Go.Proofs.Ytcnckmeelcfeeaa
