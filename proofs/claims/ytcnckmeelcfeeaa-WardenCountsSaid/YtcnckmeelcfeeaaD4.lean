/-
  The walk of WardenMays.
-/
import Derived.Test.YtcnckmeelcfeeaaD3
import Derived.Test.YtcnckmeelcfeeaaD1
import Derived.Test.YtcnckmeelcfeeaaA13
namespace Go.Proofs.Ytcnckmeelcfeeaa
open Go.RowKit
set_option maxRecDepth 100000

theorem bnext {w b c : World} (h : Below w.heap.size w b) (k : Below b.heap.size b c) : Below w.heap.size w c := h.trans (k.mono h.size)

set_option maxHeartbeats 2000000 in
theorem mays_walk (h c l m p : Int) (w : World) : Calls Try.prog 3 #[.agg #[.int .i64 h, .int .i64 c, .int .i64 l, .int .i64 m, .int .i64 p]] w fun e w' => e = .returned (.bool true) ∧ Below w.heap.size w w' := by
  obtain ⟨b, hb⟩ : ∃ b, may h c l m p = b := ⟨_, rfl⟩
  have Hb := Lib.hid hb; clear hb
  go_enter Try.func3, Try.ntmps3
  go_wp2_with fail
  refine (decide_nil h c l m p _ _ _).mono ?_
  rintro e w1 ⟨rfl, hb1⟩
  have hB1 : Below w.heap.size w w1 := ((Below.refl _ _).alloc (Nat.le_refl _) _).trans (hb1.mono (by simp))
  have k0 : w1.heap[w.heap.size]? = some (.cells [.int .i64 h, .int .i64 c, .int .i64 l, .int .i64 m, .int .i64 p].toArray 23 (0, 0)) := (hb1.block _ (by simp)).trans (block_new w _ rfl)
  have hlt1 := lt_of_block k0
  have s0 := cell_block k0 0 _ rfl; have s1 := cell_block k0 1 _ rfl; have s2 := cell_block k0 2 _ rfl; have s3 := cell_block k0 3 _ rfl; have s4 := cell_block k0 4 _ rfl
  have HB1 := Lib.hid hB1
  clear hB1 hb1 k0
  unfold noChange
  go_upto_region 2 with fail
  have d0 := block_new w1 (.cells [.int .i64 0, .int .i64 0, .int .i64 0, .int .i64 0, .int .i64 0, .int .i64 0].toArray 25) rfl
  have t0 := cell_block d0 0 _ rfl; have t1 := cell_block d0 1 _ rfl; have t2 := cell_block d0 2 _ rfl; have t3 := cell_block d0 3 _ rfl; have t4 := cell_block d0 4 _ rfl; have t5 := cell_block d0 5 _ rfl
  have r0 := Lib.cell?_alloc_some (.cells [.int .i64 0, .int .i64 0, .int .i64 0, .int .i64 0, .int .i64 0, .int .i64 0].toArray 25) s0
  have r1 := Lib.cell?_alloc_some (.cells [.int .i64 0, .int .i64 0, .int .i64 0, .int .i64 0, .int .i64 0, .int .i64 0].toArray 25) s1
  have r2 := Lib.cell?_alloc_some (.cells [.int .i64 0, .int .i64 0, .int .i64 0, .int .i64 0, .int .i64 0, .int .i64 0].toArray 25) s2
  have r3 := Lib.cell?_alloc_some (.cells [.int .i64 0, .int .i64 0, .int .i64 0, .int .i64 0, .int .i64 0, .int .i64 0].toArray 25) s3
  have r4 := Lib.cell?_alloc_some (.cells [.int .i64 0, .int .i64 0, .int .i64 0, .int .i64 0, .int .i64 0, .int .i64 0].toArray 25) s4
  clear s0 s1 s2 s3 s4 d0
  have HW := Lib.hid (HB1.out.alloc HB1.out.size (.cells [.int .i64 0, .int .i64 0, .int .i64 0, .int .i64 0, .int .i64 0, .int .i64 0].toArray 25))
  change Code.wp _ _ _ _ (w1.alloc (.cells [.int .i64 0, .int .i64 0, .int .i64 0, .int .i64 0, .int .i64 0, .int .i64 0].toArray 25))
  generalize (w1.alloc (.cells [.int .i64 0, .int .i64 0, .int .i64 0, .int .i64 0, .int .i64 0, .int .i64 0].toArray 25)) = w2 at *
  go_region_held3 (fun w' => w'.cell? ⟨w.heap.size, 0, none⟩ = some (.int .i64 h) ∧ w'.cell? ⟨w.heap.size, 1, none⟩ = some (.int .i64 c) ∧ w'.cell? ⟨w.heap.size, 2, none⟩ = some (.int .i64 l) ∧ w'.cell? ⟨w.heap.size, 3, none⟩ = some (.int .i64 m) ∧ w'.cell? ⟨w.heap.size, 4, none⟩ = some (.int .i64 p) ∧
      w'.cell? ⟨w1.heap.size, 0, none⟩ = some (.int .i64 0) ∧ w'.cell? ⟨w1.heap.size, 1, none⟩ = some (.int .i64 0) ∧ w'.cell? ⟨w1.heap.size, 2, none⟩ = some (.int .i64 0) ∧ w'.cell? ⟨w1.heap.size, 3, none⟩ = some (.int .i64 0) ∧ w'.cell? ⟨w1.heap.size, 4, none⟩ = some (.int .i64 0) ∧ w'.cell? ⟨w1.heap.size, 5, none⟩ = some (.int .i64 0))
    (first | (go_keep; done) | (go_split_ands; refine ⟨?_, ?_, ?_, ?_, ?_, ?_, ?_, ?_, ?_, ?_, ?_⟩ <;> exact keepc hb5 (by assumption)) | (go_split_ands; refine ⟨?_, ?_, ?_, ?_, ?_, ?_, ?_, ?_, ?_, ?_, ?_⟩ <;> exact keepc hb4 (by assumption)) | (go_split_ands; refine ⟨?_, ?_, ?_, ?_, ?_, ?_, ?_, ?_, ?_, ?_, ?_⟩ <;> exact keepc hb3 (by assumption)))
    (first
      | (go_at_call 14; go_must (refine (may_any h c l m p _).mono ?_; rintro e w3 ⟨he, hb3⟩; rw [Hb.out] at he; subst he))
      | (go_at_call 15; go_must (refine (refMay_any h c l m p _).mono ?_; rintro e w4 ⟨he, hb4⟩; rw [Hb.out] at he; subst he))
      | (go_at_call 16; go_must (refine (lives12 _).mono ?_; rintro e w5 ⟨rfl, hb5⟩)))
  all_goals
    go_wp2
    go_ret
    refine ⟨rfl, ?_⟩
    first
      | exact bnext (bnext (bnext HW.out.drew hb3) hb4) hb5
      | exact bnext (bnext (bnext HW.out.drew hb4) hb3) hb5
end Go.Proofs.Ytcnckmeelcfeeaa
