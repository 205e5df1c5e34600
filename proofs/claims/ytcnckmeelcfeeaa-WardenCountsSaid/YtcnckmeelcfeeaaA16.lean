/-
  Contract: a view's hot on one shard and one load (the document's example).
-/
import Derived.Test.YtcnckmeelcfeeaaA15
namespace Go.Proofs.Ytcnckmeelcfeeaa
open Go.RowKit
set_option maxRecDepth 100000

set_option maxHeartbeats 2000000 in
theorem hot_lives (D : Nat → Prop) (vb sb so sc mn mc pn pc : Nat) (ma pa : Option Addr) (lv : Value) (w : World) (h0 : w.cell? ⟨vb, 0, none⟩ = some (.slice (some ⟨sb, so, none⟩) 1 sc)) (h1 : w.cell? ⟨vb, 1, none⟩ = some (.int .i64 10)) (h6 : w.cell? ⟨vb, 6, none⟩ = some lv)
    (x0 : w.cell? ⟨sb, so, none⟩ = some (.int .i64 1)) (x1 : w.cell? ⟨sb, so + 1, none⟩ = some (.int .i64 0)) (x2 : w.cell? ⟨sb, so + 2, none⟩ = some (.int .i64 8)) (x3 : w.cell? ⟨sb, so + 3, none⟩ = some (.slice ma mn mc)) (x4 : w.cell? ⟨sb, so + 4, none⟩ = some (.slice pa pn pc))
    (hr : Rd D w 4 lv ([(⟨1, 12, 0, 3⟩ : Ld)].map ldRow)) :
    Calls Try.prog 47 #[.pointer (some ⟨vb, 0, none⟩)] w fun e w' => e = .returned (.tuple #[.agg #[.int .i64 1, .int .i64 1, .int .i64 0, .int .i64 3, .int .i64 0, .int .i64 0], .bool true]) ∧ Below w.heap.size w w' := by
  have hvb := lt_of_cell h0
  have hsb := lt_of_cell x0
  have Hr := Lib.hid hr; clear hr
  have HS : Hid (∀ (W : World), Below w.heap.size w W → W.cell? ⟨vb, 0, none⟩ = some (.slice (some ⟨sb, so, none⟩) 1 sc) ∧ W.cell? ⟨vb, 1, none⟩ = some (.int .i64 10) ∧ W.cell? ⟨vb, 6, none⟩ = some lv ∧ W.cell? ⟨sb, so, none⟩ = some (.int .i64 1) ∧ W.cell? ⟨sb, so + 1, none⟩ = some (.int .i64 0) ∧ W.cell? ⟨sb, so + 2, none⟩ = some (.int .i64 8)) := by
    intro W hB
    exact ⟨(hB.cell (p := ⟨vb, 0, none⟩) hvb).trans h0, (hB.cell (p := ⟨vb, 1, none⟩) hvb).trans h1, (hB.cell (p := ⟨vb, 6, none⟩) hvb).trans h6, (hB.cell (p := ⟨sb, so, none⟩) hsb).trans x0, (hB.cell (p := ⟨sb, so + 1, none⟩) hsb).trans x1, (hB.cell (p := ⟨sb, so + 2, none⟩) hsb).trans x2⟩
  go_enter Try.func47, Try.ntmps47
  go_wp2
  refine wp_loop_rounds 2 ?_
  rw [rounds_succ]
  go_upto_region 6 with (go_at_call 73; go_must (refine (load_any D vb lv [⟨1, 12, 0, 3⟩] 1 _ ?h6 (Hr.out.below ?hb) (by simp)).mono ?_; (case h6 => exact (HS.out _ (by (repeat (first | exact Below.refl _ _ | refine below_drewN ?_ _ | refine Below.drew ?_ | refine Below.alloc ?_ (by simp <;> omega) _)))).2.2.1); (case hb => (repeat (first | exact Below.refl _ _ | refine below_drewN ?_ _ | refine Below.drew ?_ | refine Below.alloc ?_ (by simp <;> omega) _))); rintro e w1 ⟨he, hb1⟩; have he' : e = .returned (.agg #[.int .i64 1, .int .i64 12, .int .i64 0, .int .i64 3]) := he; subst he'; clear he; have hB1 : Below w.heap.size w w1 := Below.trans (by (repeat (first | exact Below.refl _ _ | refine below_drewN ?_ _ | refine Below.drew ?_ | refine Below.alloc ?_ (by simp <;> omega) _))) (hb1.mono (by simp <;> omega)); have hz1 := hb1.size; simp at hz1; have kR : w1.heap[w.heap.size]? = some (.cells [.int .i64 0, .int .i64 0, .int .i64 0, .int .i64 0, .int .i64 0, .int .i64 0].toArray 25 (0, 0)) := (hb1.block _ (by simp <;> omega)).trans (block_old _ (block_new _ _ rfl)); have kS : w1.heap[w.heap.size + 1]? = some (.cells [.int .i64 1, .int .i64 0, .int .i64 8, .slice ma mn mc, .slice pa pn pc].toArray 56 (0, 0)) := (hb1.block _ (by simp)).trans (block_new _ _ (by simp))))
  have v := HS.out w1 hB1
  have kR2 := block_old (.cells [.int .i64 1, .int .i64 12, .int .i64 0, .int .i64 3].toArray 89 (0, 0)) kR
  have kS2 := block_old (.cells [.int .i64 1, .int .i64 12, .int .i64 0, .int .i64 3].toArray 89 (0, 0)) kS
  have kL2 := block_new w1 (.cells [.int .i64 1, .int .i64 12, .int .i64 0, .int .i64 3].toArray 89 (0, 0)) (n := w1.heap.size) rfl
  have hB2 : Below w.heap.size w (w1.alloc (.cells [.int .i64 1, .int .i64 12, .int .i64 0, .int .i64 3].toArray 89 (0, 0))) := hB1.alloc hB1.size _
  obtain ⟨v0, v1, v6, y0, y1, y2⟩ := HS.out _ hB2
  clear kR kS hB1 hb1 HS v hz1
  clear h0 h1 h6 x0 x1 x2 x3 x4
  change Code.wp _ _ _ _ (w1.alloc (.cells [.int .i64 1, .int .i64 12, .int .i64 0, .int .i64 3].toArray 89 (0, 0)))
  generalize (w1.alloc (.cells [.int .i64 1, .int .i64 12, .int .i64 0, .int .i64 3].toArray 89 (0, 0))) = w2 at *
  have HKR := Lib.hid kR2
  have HB2 := Lib.hid hB2
  have s0 := cell_block kS2 0 _ rfl
  have s1 := cell_block kS2 1 _ rfl
  have s2 := cell_block kS2 2 _ rfl
  have l1 := cell_block kL2 1 _ rfl
  have l3 := cell_block kL2 3 _ rfl
  have z0 := cell_block kR2 0 _ rfl
  have fz0 := frozen_of_row w2 _ 0 _ _ kR2
  have z1 := cell_block kR2 1 _ rfl
  have fz1 := frozen_of_row w2 _ 1 _ _ kR2
  have z2 := cell_block kR2 2 _ rfl
  have fz2 := frozen_of_row w2 _ 2 _ _ kR2
  have z3 := cell_block kR2 3 _ rfl
  have fz3 := frozen_of_row w2 _ 3 _ _ kR2
  have z4 := cell_block kR2 4 _ rfl
  have fz4 := frozen_of_row w2 _ 4 _ _ kR2
  have z5 := cell_block kR2 5 _ rfl
  have fz5 := frozen_of_row w2 _ 5 _ _ kR2
  clear kR2 kS2 kL2 hB2
  have d1 : decide ((8 : Int) < 2) = false := rfl
  have d2 : decide ((12 : Int) < 10) = false := rfl
  go_big_quiet (fail)
  go_wp2
  have k3 : (((((((w2.drewN nq).setCell ⟨w.heap.size, 0, none⟩ (.int .i64 1)).setCell ⟨w.heap.size, 1, none⟩ (.int .i64 1)).setCell ⟨w.heap.size, 2, none⟩ (.int .i64 0)).setCell ⟨w.heap.size, 3, none⟩ (.int .i64 3)).setCell ⟨w.heap.size, 4, none⟩ (.int .i64 0)).setCell ⟨w.heap.size, 5, none⟩ (.int .i64 0)).heap[w.heap.size]? = some (.cells [.int .i64 1, .int .i64 1, .int .i64 0, .int .i64 3, .int .i64 0, .int .i64 0].toArray 25 (0, 0)) := heap_setCell_same _ _ 5 _ _ _ (heap_setCell_same _ _ 4 _ _ _ (heap_setCell_same _ _ 3 _ _ _ (heap_setCell_same _ _ 2 _ _ _ (heap_setCell_same _ _ 1 _ _ _ (heap_setCell_same _ _ 0 _ _ _ HKR.out)))))
  have hB3 : Below w.heap.size w (((((((w2.drewN nq).setCell ⟨w.heap.size, 0, none⟩ (.int .i64 1)).setCell ⟨w.heap.size, 1, none⟩ (.int .i64 1)).setCell ⟨w.heap.size, 2, none⟩ (.int .i64 0)).setCell ⟨w.heap.size, 3, none⟩ (.int .i64 3)).setCell ⟨w.heap.size, 4, none⟩ (.int .i64 0)).setCell ⟨w.heap.size, 5, none⟩ (.int .i64 0)) := (((((((below_drewN HB2.out nq).setCell (p := ⟨w.heap.size, 0, none⟩) (Nat.le_refl _) _).setCell (p := ⟨w.heap.size, 1, none⟩) (Nat.le_refl _) _).setCell (p := ⟨w.heap.size, 2, none⟩) (Nat.le_refl _) _).setCell (p := ⟨w.heap.size, 3, none⟩) (Nat.le_refl _) _).setCell (p := ⟨w.heap.size, 4, none⟩) (Nat.le_refl _) _).setCell (p := ⟨w.heap.size, 5, none⟩) (Nat.le_refl _) _)
  rw [rounds_succ]
  generalize (((((((w2.drewN nq).setCell ⟨w.heap.size, 0, none⟩ (.int .i64 1)).setCell ⟨w.heap.size, 1, none⟩ (.int .i64 1)).setCell ⟨w.heap.size, 2, none⟩ (.int .i64 0)).setCell ⟨w.heap.size, 3, none⟩ (.int .i64 3)).setCell ⟨w.heap.size, 4, none⟩ (.int .i64 0)).setCell ⟨w.heap.size, 5, none⟩ (.int .i64 0)) = w3 at *
  have HK3 := Lib.hid k3
  have HB3 := Lib.hid hB3
  have y0 := cell_block k3 0 _ rfl
  have fy0 := frozen_of_row w3 _ 0 _ _ k3
  have y1 := cell_block k3 1 _ rfl
  have fy1 := frozen_of_row w3 _ 1 _ _ k3
  have y2 := cell_block k3 2 _ rfl
  have fy2 := frozen_of_row w3 _ 2 _ _ k3
  have y3 := cell_block k3 3 _ rfl
  have fy3 := frozen_of_row w3 _ 3 _ _ k3
  have y4 := cell_block k3 4 _ rfl
  have fy4 := frozen_of_row w3 _ 4 _ _ k3
  have y5 := cell_block k3 5 _ rfl
  have fy5 := frozen_of_row w3 _ 5 _ _ k3
  clear k3 hB3 z0 z1 z2 z3 z4 z5 fz0 fz1 fz2 fz3 fz4 fz5 s0 s1 s2 l1 l3 v0 v1 v6
  go_wp2
  refine bodyPost_ret (results_row_tmp rfl _ _ w.heap.size 25 #[.int .i64 1, .int .i64 1, .int .i64 0, .int .i64 3, .int .i64 0, .int .i64 0] (0, 0) _ rfl ?blk Try.underlying25 rfl (by kernel_rfl)) rfl ⟨rfl, ?_⟩
  case blk => exact heap_setCell_same _ _ 5 _ _ _ (heap_setCell_same _ _ 4 _ _ _ (heap_setCell_same _ _ 3 _ _ _ (heap_setCell_same _ _ 2 _ _ _ (heap_setCell_same _ _ 1 _ _ _ (heap_setCell_same _ _ 0 _ _ _ HK3.out)))))
  exact (((((HB3.out.setCell (p := ⟨w.heap.size, 0, none⟩) (Nat.le_refl _) _).setCell (p := ⟨w.heap.size, 1, none⟩) (Nat.le_refl _) _).setCell (p := ⟨w.heap.size, 2, none⟩) (Nat.le_refl _) _).setCell (p := ⟨w.heap.size, 3, none⟩) (Nat.le_refl _) _).setCell (p := ⟨w.heap.size, 4, none⟩) (Nat.le_refl _) _).setCell (p := ⟨w.heap.size, 5, none⟩) (Nat.le_refl _) _
end Go.Proofs.Ytcnckmeelcfeeaa
