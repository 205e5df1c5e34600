/-
  The walk of WardenHalves: a Meter and the law's own counts, over the first spans.
-/
import Derived.Test.YtcnckmeelcfeeaaM2
import Derived.Test.YtcnckmeelcfeeaaD3
import Derived.Test.YtcnckmeelcfeeaaD4
import Derived.Laws.MakeOwn
import Derived.Deep.CutBlock
namespace Go.Proofs.Ytcnckmeelcfeeaa
open Go.RowKit
set_option maxRecDepth 100000

theorem Try.made256 : ∃ zs : Array Value, zs.size = 256 ∧ (∀ j, j < 256 → zs[j]? = some (.int .i64 0)) ∧ ∀ w, (Instr.makeSlice 34 (.int .i64 256) (.int .i64 256)).run Try.prog w = .ok (.slice (some ⟨w.heap.size, 0, none⟩) 256 256) (w.alloc (.cells zs 3)) := by
  obtain ⟨i, hi, hz, hs, hb⟩ := info_of Try.infoInt
  refine ⟨madeCells (Value.cells (.int .i64 0)) (256 * 1), by simp [madeCells], fun j hj => ?_, fun w => ?_⟩
  · have e : j % 1 = 0 := Nat.mod_one j
    simp [madeCells, Value.cells, hj, e]
  · have h := run_makeSlice (P := Try.prog) w 34 3 i (.int .i64 0) Try.underlying34 hi hz .i64 .i64 256 256 (by omega) (by omega) (by rw [hs]; decide) (by rw [hb]; decide) (by omega)
    rw [hs] at h
    exact h
theorem Try.zeroMeter : Try.zeroCells33 = Array.replicate 257 (.int .i64 0) := by kernel_rfl
theorem meter_new (w : World) : CntAt (w.alloc (.cells Try.zeroCells33 33)) w.heap.size 33 257 (fun _ => 0) :=
  ⟨_, block_new w _ rfl, by rw [Try.zeroMeter]; simp, fun j hj => by rw [Try.zeroMeter]; simp [hj]⟩

/-- What is counted of the first k spans. -/
def nts (ss : List Sp) (k : Nat) : Nat → Int := (ss.take k).foldl (fun c s => note c s.f s.t) (fun _ => 0)
theorem nts_snoc {ss : List Sp} {k : Nat} (h : k < ss.length) : nts ss (k + 1) = note (nts ss k) (nth ss k).f (nth ss k).t := by
  unfold nts; rw [take_nth h, List.foldl_append]; rfl
theorem note_bd {c : Nat → Int} {f t : Int} {j : Nat} : c j ≤ note c f t j ∧ note c f t j ≤ c j + 1 := by
  unfold note noteTo
  by_cases e : j = 256
  · subst e; rw [if_pos rfl]; omega
  · rw [if_neg e]; split <;> omega
theorem nts_bd (ss : List Sp) : ∀ k, k ≤ ss.length → ∀ j, 0 ≤ nts ss k j ∧ nts ss k j ≤ k
  | 0, _, j => by simp [nts]
  | k + 1, h, j => by
    have h1 := nts_bd ss k (by omega) j
    rw [nts_snoc (by omega)]
    have h2 := note_bd (c := nts ss k) (f := (nth ss k).f) (t := (nth ss k).t) (j := j)
    omega

set_option maxHeartbeats 2000000 in
theorem halves_walk (D : Nat → Prop) (v : Value) (ss : List Sp) (w : World) (h : Rd D w 2 v (srows ss)) : Calls Try.prog 4 #[v] w fun e w' => e = .returned (.bool true) ∧ Below w.heap.size w w' := by
  obtain ⟨A, cp, rfl, hl, -⟩ := id h
  rw [srows_length] at h hl ⊢
  have hsp := h.spans.2.2
  have HS := Lib.hid hsp; clear hsp h
  obtain ⟨zs, hz1, hz2, hmk⟩ := Try.made256
  have HZ : Hid (∀ W : World, CntAt (W.alloc (.cells zs 3)) W.heap.size 3 256 (fun _ => 0)) := fun W => ⟨_, block_new W _ rfl, hz1, hz2⟩
  clear hz1 hz2
  go_enter Try.func4, Try.ntmps4
  go_upto_block 0 with fail
  go_cut [] from 5 to 48 (fun wx => ∃ c : Nat → Int, Hid (∀ j, 0 ≤ c j ∧ c j ≤ 200) ∧ CntAt wx w.heap.size 33 257 c ∧ CntAt wx (w.heap.size + 1) 3 256 c ∧ Below w.heap.size w wx)
  case first =>
    have hm0 := (meter_new w).below ((Below.refl _ _).alloc (Nat.le_refl _) (.cells zs 3))
    have hc0 := HZ.out (w.alloc (.cells Try.zeroCells33 33))
    rw [show (w.alloc (.cells Try.zeroCells33 33)).heap.size = w.heap.size + 1 by simp] at hc0
    have hB0 : Below w.heap.size w ((w.alloc (.cells Try.zeroCells33 33)).alloc (.cells zs 3)) := ((Below.refl _ _).alloc (Nat.le_refl _) _).alloc (by simp) _
    have HM0 := Lib.hid hm0; have HC0 := Lib.hid hc0; have HB0 := Lib.hid hB0
    clear hm0 hc0 hB0 hmk
    go_wp2
    go_loopw [17] (fun i wr => ∃ k : Nat, k ≤ ss.length ∧ k ≤ 200 ∧ i = .int .i64 k ∧ CntAt wr w.heap.size 33 257 (nts ss k) ∧ CntAt wr (w.heap.size + 1) 3 256 (nts ss k) ∧ Below w.heap.size w wr) (fun i _ => ss.length - (intOf i).toNat)
    case atStart => exact ⟨0, Nat.zero_le _, by omega, rfl, HM0.out, HC0.out, HB0.out⟩
    case round =>
      obtain ⟨k, hk, hk2, rfl, hm, hc, hB⟩ := hrel
      obtain ⟨wo, hwo⟩ : ∃ wo : World, wo = wr := ⟨_, rfl⟩
      subst hwo
      have HM := Lib.hid hm; have HC := Lib.hid hc; have HB := Lib.hid hB
      clear hm hc hB
      by_cases hlt : k < ss.length
      · obtain ⟨b, off, rfl, hD, hb, hf, ht⟩ := HS.out (by omega)
        have q0 := (HB.out.cell (p := ⟨b, off + k * 2, none⟩) hb).trans (hf k hlt)
        have q1 := (HB.out.cell (p := ⟨b, off + k * 2 + 1, none⟩) hb).trans (ht k hlt)
        clear hf ht
        by_cases h200 : k < 200
        · have hsn := Lib.hid (nts_snoc hlt)
          have hbd := nts_bd ss k hk
          generalize nts ss k = c at *
          generalize nth ss k = s at *
          obtain ⟨f, t⟩ := s
          dsimp only at q0 q1
          have hc0 : Hid (∀ j, 0 ≤ c j ∧ c j ≤ 200) := fun j => by have := hbd j; omega
          clear hbd
          go_wp2_with fail
          refine (note_any w.heap.size 33 c f t _ (HM.out.below ((Below.refl _ _).alloc (Nat.le_refl _) _)) (fun j _ => (hc0.out j).1) (fun j _ => by have := (hc0.out j).2; omega)).mono ?_
          rintro e w1 ⟨rfl, hm1, hmod1⟩
          have hz1 := hmod1.size
          simp at hz1
          have hwz := HM.out.lt
          have hcz := HC.out.lt
          have k1 : w1.heap[wo.heap.size]? = some (.cells [.int .i64 f, .int .i64 t].toArray 36 (0, 0)) := (hmod1.block _ (by simp) (by omega)).trans (block_new wo _ rfl)
          have hc1 := ((HC.out.below ((Below.refl _ _).alloc (Nat.le_refl _) (.cells [.int .i64 f, .int .i64 t].toArray 36))).mods hmod1 (by omega)).congr (noteTo_zero (f := f) (t := t))
          have hB1 : Below w.heap.size w w1 := (HB.out.alloc HB.out.size _).trans (hmod1.below (Nat.le_trans HB.out.size (by simp)) (fun x _ h => by omega))
          have HM1 := Lib.hid hm1; have HK1 := Lib.hid k1; have HC1 := Lib.hid hc1; have HB1 := Lib.hid hB1
          clear hm1 k1 hc1 hB1 hmod1
          go_wp2
          go_loopw [7, 28] (fun _ i wr => ∃ m : Nat, m ≤ 256 ∧ i = .int .i64 m ∧ CntAt wr (w.heap.size + 1) 3 256 (noteTo c f t m) ∧ Mods (fun g => g = w.heap.size + 1) w1 wr) (fun _ i _ => 256 - (intOf i).toNat)
          case atStart => exact ⟨0, by omega, rfl, HC1.out, Mods.refl _ _⟩
          case round =>
            obtain ⟨m, hm, rfl, hcm, hmm⟩ := hrel
            obtain ⟨wi, hwi⟩ : ∃ wi : World, wi = wr := ⟨_, rfl⟩
            subst hwi
            have k2 := (hmm.block _ (lt_of_block HK1.out) (by omega)).trans HK1.out
            have r0 := cell_block k2 0 _ rfl
            have r1 := cell_block k2 1 _ rfl
            have HMM := Lib.hid hmm; clear hmm k2
            by_cases hm2 : m < 256
            · have q := hcm.cell (k := m) hm2
              have fq := hcm.free m
              rw [noteTo_at hm2] at q
              have hcb := hc0.out m
              have hcb1 := hcb.1
              have hcb2 := hcb.2
              clear hcb
              by_cases hin : f ≤ (m : Int) ∧ (m : Int) < t
              · obtain ⟨hin1, hin2⟩ := hin
                have HCS := Lib.hid ((hcm.set (k := m) hm2 (c m + 1)).congr (fun j hj => noteTo_step hin1 hin2 hm2 j (by omega)))
                have HMS : Hid (Mods (fun g => g = w.heap.size + 1) w1 (wi.setCell ⟨w.heap.size + 1, m, none⟩ (.int .i64 (c m + 1)))) := HMM.out.trans (Mods.setCell (S := fun g => g = w.heap.size + 1) wi (p := ⟨w.heap.size + 1, m, none⟩) rfl _) (fun _ _ h => h)
                clear hcm
                go_wp2
                exact ⟨⟨m + 1, by omega, by go_num, HCS.out, HMS.out⟩, by simp [intOf]; omega⟩
              · have HCS := Lib.hid (hcm.congr (noteTo_skip hin))
                clear hcm
                by_cases hin1 : f ≤ (m : Int)
                · have hin2 : t ≤ (m : Int) := by omega
                  clear hin
                  go_wp2
                  exact ⟨⟨m + 1, by omega, by go_num, HCS.out, HMM.out⟩, by simp [intOf]; omega⟩
                · clear hin
                  go_wp2
                  exact ⟨⟨m + 1, by omega, by go_num, HCS.out, HMM.out⟩, by simp [intOf]; omega⟩
            · obtain rfl : m = 256 := by omega
              have HCS := Lib.hid hcm; clear hcm q0 q1
              go_wp2
              refine ⟨⟨k + 1, by omega, by omega, by go_num, ?_, ?_, HB1.out.trans (HMM.out.below HB1.out.size (fun x _ h => by omega))⟩, by simp [intOf]; omega⟩
              · rw [hsn.out]; exact HM1.out.mods HMM.out (by omega)
              · rw [hsn.out]; exact HCS.out
        · go_wp2
          go_meet
          exact ⟨nts ss k, fun j => by have := nts_bd ss k hk j; omega, HM.out.below ((Below.refl _ _).alloc (Nat.le_refl _) _), HC.out.below ((Below.refl _ _).alloc (Nat.le_refl _) _), HB.out.alloc HB.out.size _⟩
      · go_wp2
        go_meet
        exact ⟨nts ss k, fun j => by have := nts_bd ss k hk j; omega, HM.out, HC.out, HB.out⟩
  case rest =>
    obtain ⟨c, hbd, hm, hc, hB⟩ := hcut
    clear hmk
    have HM := Lib.hid hm; have HC := Lib.hid hc; have HB := Lib.hid hB
    clear hm hc hB
    go_wp2_with fail
    refine (mid_any w.heap.size 33 c 0 256 _ HM.out (fun j _ => (hbd.out j).1) (fun j _ => by have := (hbd.out j).2; omega)).mono ?_
    rintro e w2 ⟨r, rfl, hmid, hb2⟩
    have hhalf := mid_halves (fun j => (hbd.out j).1) hmid
    clear hmid
    have hr1 := hhalf.1
    have hr2 := hhalf.2.1
    have Hhalf := Lib.hid hhalf.2.2; clear hhalf
    have HC2 := Lib.hid (HC.out.below hb2)
    have HB2 := Lib.hid (bnext HB.out hb2)
    clear hb2
    go_wp2
    go_loop [9, 10, 11, 12, 13, 53] (fun al ah bh _ _ i => ∃ m : Nat, m ≤ 256 ∧ i = .int .i64 m ∧ al = .int .i64 (sumTo c 0 m) ∧ ah = .int .i64 (sumIf (fun j => decide (j < r)) c m) ∧ bh = .int .i64 (sumIf (fun j => decide (r < j)) c m)) (fun _ _ _ _ _ i => 256 - (intOf i).toNat)
    case atStart => exact ⟨0, by omega, rfl, rfl, rfl, rfl⟩
    case round =>
      obtain ⟨m, hm, rfl, rfl, rfl, rfl⟩ := hrel
      have d1 := sumTo_bd (c := c) (a := 0) 200 (by omega) (b := m) hm (fun j _ => (hbd.out j).1) (fun j _ => (hbd.out j).2)
      have d2 := sumIf_bd (p := fun j => decide (j < r)) (c := c) 200 (by omega) (b := m) hm hbd.out
      have d3 := sumIf_bd (p := fun j => decide (r < j)) (c := c) 200 (by omega) (b := m) hm hbd.out
      by_cases hm2 : m < 256
      · have q := HC2.out.cell (k := m) hm2
        have hcm := hbd.out m
        have e1 := Lib.hid (sumTo_step (c := c) (a := 0) (b := m) (by omega))
        have e2 : Hid (sumIf (fun j => decide (j < r)) c (m + 1) = sumIf (fun j => decide (j < r)) c m + (if decide ((m : Int) < r) = true then c m else 0)) := rfl
        have e3 : Hid (sumIf (fun j => decide (r < j)) c (m + 1) = sumIf (fun j => decide (r < j)) c m + (if decide (r < (m : Int)) = true then c m else 0)) := rfl
        generalize sumTo c 0 m = s1 at *
        generalize sumIf (fun j => decide (j < r)) c m = s2 at *
        generalize sumIf (fun j => decide (r < j)) c m = s3 at *
        have d4 : 0 ≤ s1 ∧ s1 ≤ 60000 ∧ 0 ≤ s2 ∧ s2 ≤ 60000 ∧ 0 ≤ s3 ∧ s3 ≤ 60000 ∧ 0 ≤ c m ∧ c m ≤ 200 := by omega
        clear d1 d2 d3 hcm
        obtain ⟨g1, g2, g3, g4, g5, g6, g7, g8⟩ := d4
        by_cases hlt : (m : Int) < r
        · have hlt2 : ¬ r < (m : Int) := by omega
          go_wp2
          exact ⟨⟨m + 1, by omega, by go_num, by rw [e1.out], by rw [e2.out, if_pos (decide_eq_true hlt)], by rw [e3.out, if_neg (by simp; omega), Int.add_zero]⟩, by simp [intOf]; omega⟩
        · by_cases hlt2 : r < (m : Int)
          · go_wp2
            exact ⟨⟨m + 1, by omega, by go_num, by rw [e1.out], by rw [e2.out, if_neg (by simp; omega), Int.add_zero], by rw [e3.out, if_pos (decide_eq_true hlt2)]⟩, by simp [intOf]; omega⟩
          · go_wp2
            exact ⟨⟨m + 1, by omega, by go_num, by rw [e1.out], by rw [e2.out, if_neg (by simp; omega), Int.add_zero], by rw [e3.out, if_neg (by simp; omega), Int.add_zero]⟩, by simp [intOf]; omega⟩
      · obtain rfl : m = 256 := by omega
        have hh := Hhalf.out
        generalize sumTo c 0 256 = s1 at *
        generalize sumIf (fun j => decide (j < r)) c 256 = s2 at *
        generalize sumIf (fun j => decide (r < j)) c 256 = s3 at *
        have d4 : 0 ≤ s1 ∧ s1 ≤ 60000 ∧ 0 ≤ s2 ∧ s2 ≤ 60000 ∧ 0 ≤ s3 ∧ s3 ≤ 60000 := by omega
        obtain ⟨g1, g2, g3, g4, g5, g6⟩ := d4
        obtain ⟨hh1, hh2⟩ := hh
        clear d1 d2 d3
        go_wp2_with fail
        refine (lives12 _).mono ?_
        rintro e w3 ⟨rfl, hb3⟩
        have HB3 := Lib.hid (bnext HB2.out hb3); clear hb3
        go_wp2
        go_ret
        exact ⟨rfl, HB3.out⟩
end Go.Proofs.Ytcnckmeelcfeeaa
