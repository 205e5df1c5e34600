/-
  Contract: a Meter's Note, Commands, Clear.
-/
import Derived.Test.YtcnckmeelcfeeaaProg
import Derived.Test.YtcnckmeelcfeeaaLamCnt
import Derived.RegionTactic
import Derived.BigRegion
import Derived.Deep.CutRange
import Derived.IntWalk
import Derived.Test.YtcnckmeelcfeeaaA1
namespace Go.Proofs.Ytcnckmeelcfeeaa
open Go.RowKit
set_option maxRecDepth 100000

theorem note_nil (f t : Int) (w : World) : Calls Try.prog 17 #[.pointer none, .agg #[.int .i64 f, .int .i64 t]] w fun e w' => e = .returned (.tuple #[]) ∧ Below w.heap.size w w' := by
  go_enter Try.func17, Try.ntmps17
  go_wp2
  refine bodyPost_ret (results_none rfl _ _ _) rfl ?_
  exact ⟨rfl, (Below.refl _ _).alloc (Nat.le_refl _) _⟩

set_option maxHeartbeats 1000000 in
theorem note_any (mb T : Nat) (c : Nat → Int) (f t : Int) (w : World) (h : CntAt w mb T 257 c) (h0 : ∀ j, j < 257 → 0 ≤ c j) (h1 : ∀ j, j < 257 → c j ≤ 1000000) :
    Calls Try.prog 17 #[.pointer (some ⟨mb, 0, none⟩), .agg #[.int .i64 f, .int .i64 t]] w fun e w' => e = .returned (.tuple #[]) ∧ CntAt w' mb T 257 (note c f t) ∧ Mods (fun g => g = mb) w w' := by
  have hmb := h.lt
  have q256 := h.cell (k := 256) (by omega)
  have f256 := h.free 256
  have l256 := h0 256 (by omega)
  have u256 := h1 256 (by omega)
  have H := Lib.hid h; clear h
  have H0 := Lib.hid h0; have H1 := Lib.hid h1; clear h0 h1
  obtain ⟨b0, hb0⟩ : ∃ b0 : Int, b0 = max f 0 := ⟨_, rfl⟩
  go_enter Try.func17, Try.ntmps17
  go_upto_region 3 with fail
  go_cut [4] from 14 to 16 (fun b wx => b = .int .i64 b0 ∧ CntAt wx mb T 257 (noteTo c f t b0) ∧ Mods (fun g => g = mb) w wx ∧ wx.heap[w.heap.size]? = some (.cells [.int .i64 f, .int .i64 t].toArray 36 (0, 0)))
  case first =>
    have hm := Mods.setCell (S := fun g => g = mb) w (p := ⟨mb, 256, none⟩) rfl (.int .i64 (c 256 + 1))
    have hk := block_new (w.setCell ⟨mb, 256, none⟩ (.int .i64 (c 256 + 1))) (.cells [.int .i64 f, .int .i64 t].toArray 36) (n := w.heap.size) (by simp)
    have hc := ((H.out.set (k := 256) (by omega) (c 256 + 1)).congr (fun j hj => noteTo_start (f := f) (t := t) (b := b0) (by omega) j hj)).below ((Below.refl _ _).alloc (Nat.le_refl _) (.cells [.int .i64 f, .int .i64 t].toArray 36))
    have HM : Hid (Mods (fun g => g = mb) w ((w.setCell ⟨mb, 256, none⟩ (.int .i64 (c 256 + 1))).alloc (.cells [.int .i64 f, .int .i64 t].toArray 36))) := hm.trans (Mods.alloc _ _) (fun _ _ h => h)
    have HK := Lib.hid hk; have HC := Lib.hid hc
    clear hm hk hc
    by_cases hf : f < 0
    · obtain rfl : b0 = 0 := by omega
      clear hb0
      go_wp2
      go_meet
      exact ⟨rfl, HC.out, HM.out, HK.out⟩
    · obtain rfl : b0 = f := by omega
      clear hb0
      go_wp2
      go_meet
      exact ⟨rfl, HC.out, HM.out, HK.out⟩
  case rest =>
    obtain ⟨rfl, hc, hm, hk⟩ := hcut
    have hb1 : 0 ≤ b0 ∧ f ≤ b0 ∧ (b0 = f ∨ b0 = 0) := by omega
    clear hb0 q256 f256
    have HC := Lib.hid hc; have HM := Lib.hid hm; have HK := Lib.hid hk
    clear hc hm hk
    go_wp2
    go_loopw [4] (fun i wr => ∃ b : Int, b0 ≤ b ∧ (b = b0 ∨ b ≤ t ∧ b ≤ 256) ∧ i = .int .i64 b ∧ CntAt wr mb T 257 (noteTo c f t b) ∧ Mods (fun g => g = mb) wc wr) (fun i _ => (256 - intOf i).toNat)
    case atStart => exact ⟨b0, Int.le_refl _, .inl rfl, rfl, HC.out, Mods.refl _ _⟩
    case round =>
      obtain ⟨b, hb, hbt, rfl, hc, hm⟩ := hrel
      obtain ⟨k, rfl⟩ := Int.eq_ofNat_of_zero_le (show 0 ≤ b by omega)
      obtain ⟨wo, hwo⟩ : ∃ wo : World, wo = wr := ⟨_, rfl⟩
      subst hwo
      have hk2 := (hm.block _ (lt_of_block HK.out) (by omega)).trans HK.out
      have r1 := cell_block hk2 1 _ rfl
      have hwlt := lt_of_block hk2
      have HK2 := Lib.hid hk2; clear hk2
      have HM2 := Lib.hid hm; clear hm
      by_cases hlt : (k : Int) < t ∧ k < 256
      · obtain ⟨hlt1, hlt2⟩ := hlt
        have q := hc.cell (k := k) (by omega)
        have fq := hc.free k
        rw [noteTo_at hlt2] at q
        have l1 := H0.out k (by omega)
        have u1 := H1.out k (by omega)
        have hw : IntKind.i64.wrap (c k + 1) = c k + 1 := IntWalk.i64_in _ (by omega)
        have HS := Lib.hid ((hc.set (k := k) (by omega) (c k + 1)).congr (noteTo_step (by omega) hlt1 hlt2))
        have HM3 : Hid (Mods (fun g => g = mb) wc (wo.setCell ⟨mb, k, none⟩ (.int .i64 (c k + 1)))) := HM2.out.trans (Mods.setCell (S := fun g => g = mb) wo (p := ⟨mb, k, none⟩) rfl _) (fun _ _ h => h)
        clear hc
        have hk0 : (0 : Int) ≤ (k : Int) := Int.natCast_nonneg _
        have hk256 : (k : Int) < 256 := by omega
        by_cases ht : 256 < t
        all_goals
          go_wp2
          go_region
          go_wp2
          exact ⟨⟨(k : Int) + 1, by omega, .inr ⟨by omega, by omega⟩, by go_num, HS.out, HM3.out.os, HM3.out.tape, HM3.out.output, HM3.out.size, HM3.out.block⟩, by simp [intOf]; omega⟩
      · by_cases ht : 256 < t
        · have hge : (256 : Int) ≤ (k : Int) := by omega
          go_wp2
          go_end0
          exact ⟨rfl, hc.congr (noteTo_end (.inr hge)), HM.out.trans HM2.out (fun _ _ h => h)⟩
        · have hge : t ≤ (k : Int) := by omega
          go_wp2
          go_end0
          exact ⟨rfl, hc.congr (noteTo_end (.inl hge)), HM.out.trans HM2.out (fun _ _ h => h)⟩

theorem commands_nil (w : World) : Calls Try.prog 19 #[.pointer none] w fun e w' => e = .returned (.int .i64 0) ∧ w = w' := by
  go_enter Try.func19, Try.ntmps19
  go_wp2
  go_ret
  exact ⟨rfl, rfl⟩
theorem commands_at (mb T : Nat) (c : Nat → Int) (w : World) (h : CntAt w mb T 257 c) : Calls Try.prog 19 #[.pointer (some ⟨mb, 0, none⟩)] w fun e w' => e = .returned (.int .i64 (c 256)) ∧ w = w' := by
  have q := h.cell (k := 256) (by omega)
  go_enter Try.func19, Try.ntmps19
  go_wp2
  go_ret
  exact ⟨rfl, rfl⟩
theorem clear_nil (w : World) : Calls Try.prog 20 #[.pointer none] w fun e w' => e = .returned (.tuple #[]) ∧ w = w' := by
  go_enter Try.func20, Try.ntmps20
  go_wp2
  go_end0
  exact ⟨rfl, rfl⟩
end Go.Proofs.Ytcnckmeelcfeeaa
