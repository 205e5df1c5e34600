/-
  Contract: Put into a Map that has nothing.
-/
import Derived.Test.YtcnckmeelcfeeaaA7
import Derived.Deep.RegionWith
import Derived.Deep.DeepMust
import Derived.StillTailTactics
import Derived.Deep.CutRange
namespace Go.Proofs.Ytcnckmeelcfeeaa
open Go.RowKit
set_option maxRecDepth 100000

set_option maxHeartbeats 4000000 in
theorem put_first (b off T : Nat) (cs : Array Value) (s : Sp) (x : Int) (w : World) (hb : w.heap[b]? = some (.cells cs T (0, 0))) (hcl : cs[off]? = some (.slice none 0 0)) (hcv : cs[off + 1]? = some (.slice none 0 0)) (hs : s.f < s.t) :
    Calls Try.prog 79 #[.pointer (some ⟨b, off, none⟩), .agg #[.int .i64 s.f, .int .i64 s.t], .int .i64 x] w fun e w' => e = .returned (.tuple #[]) ∧ ∃ lv vv, w'.heap[b]? = some (.cells ((cs.setIfInBounds off lv).setIfInBounds (off + 1) vv) T (0, 0)) ∧
      OwnR w' w.heap.size 36 2 lv [srow s] ∧ OwnR w' w.heap.size 3 1 vv [[.int .i64 x]] ∧ Mods (fun g => g = b) w w' := by
  have hbl := lt_of_block hb
  have Hb := Lib.hid hb; clear hb
  have Hcl := Lib.hid hcl; have Hcv := Lib.hid hcv; clear hcl hcv
  go_enter Try.func79, Try.ntmps79
  go_wp2_with (first
    | (go_at_call 77; refine (empty_no _ _ hs _).mono ?_; rintro e w1 ⟨rfl, hb1⟩; have hB1 : Below w.heap.size w w1 := ((Below.refl _ _).alloc (Nat.le_refl _) _).trans (hb1.mono (by simp)); have b3 : w1.heap[w.heap.size]? = some (.cells [.int .i64 s.f, .int .i64 s.t].toArray 36 (0, 0)) := (hb1.block w.heap.size (by simp)).trans (heap_alloc_new w _); have s0 := cell_block b3 0 _ rfl; have s1 := cell_block b3 1 _ rfl; have hz1 := hb1.size; simp at hz1; clear hb1)
    | (go_at_call 52; refine (drop_nothing b off T cs s _ ((hB1.block b hbl).trans Hb.out) Hcl.out Hcv.out hs).mono ?_; rintro e w2 ⟨rfl, hb2, hM2⟩))
  have f0 : w2.cell? ⟨b, off, none⟩ = some (.slice none 0 0) := by rw [cell_of_row w2 b off cs T (0, 0) hb2]; exact Hcl.out
  have f1 : w2.cell? ⟨b, off + 1, none⟩ = some (.slice none 0 0) := by rw [cell_of_row w2 b (off + 1) cs T (0, 0) hb2]; exact Hcv.out
  have hne : ¬ w.heap.size = b := by omega
  have b4 := (hM2.block w.heap.size (by omega) hne).trans b3
  have t0 := cell_block b4 0 _ rfl
  have t1 := cell_block b4 1 _ rfl
  have hz2 := hM2.size
  have HM2 : Hid (Mods (fun g => g = b) w w2) := (Mods.of_below hB1).trans hM2 (fun _ _ h => h)
  have Hb2 := Lib.hid hb2
  clear s0 s1 b3 b4 hM2 hB1 hb2
  refine wp_loop_rounds 1 ?_
  rw [rounds_succ]
  go_upto_region 4 with fail
  go_big_quiet (fail)
  have HM3 : Hid (Mods (fun g => g = b) w (w2.drewN nq)) := HM2.out.trans (Mods.of_below (S := fun g => g = b) (below_drewN (Below.refl _ _) _)) (fun _ _ h => h)
  have f0 : (w2.drewN nq).cell? ⟨b, off, none⟩ = some (.slice none 0 0) := f0
  have f1 : (w2.drewN nq).cell? ⟨b, off + 1, none⟩ = some (.slice none 0 0) := f1
  have t0 : (w2.drewN nq).cell? ⟨w.heap.size, 0, none⟩ = some (.int .i64 s.f) := t0
  have t1 : (w2.drewN nq).cell? ⟨w.heap.size, 1, none⟩ = some (.int .i64 s.t) := t1
  have Hb3 : Hid ((w2.drewN nq).heap[b]? = some (.cells cs T (0, 0))) := Hb2
  have hz3 : w1.heap.size ≤ (w2.drewN nq).heap.size := hz2
  clear HM2 Hb2 hz2
  generalize w2.drewN nq = w3 at *
  have hbw3 : b < w3.heap.size := by omega
  have hww3 : w.heap.size < w3.heap.size := by omega
  go_upto_region 6 with fail
  go_cut [] from 38 to 59 (fun wx => ∃ lv, wx.heap[b]? = some (.cells (cs.setIfInBounds off lv) T (0, 0)) ∧ OwnR wx w.heap.size 36 2 lv [srow s] ∧ Mods (fun g => g = b) w wx)
  case first =>
    go_region_with (go_at_call 93; refine (insertSpan_nil (fun g => g = w3.heap.size) w.heap.size (.slice (some ⟨w3.heap.size, 0, none⟩) 1 1) s _ (rd_block (B := w3.heap.size) (r := srow s) (e := 36) ?r1) ?r2).mono ?_; (case r1 => exact block_new _ _ (by simp)); (case r2 => simp; omega); rintro e w4 ⟨v3, rfl, hown, hb3⟩; obtain ⟨A3, c3, rfl⟩ := hown.slice; have hb4 : w4.heap[b]? = some (.cells cs T (0, 0)) := (hb3.block b (by simp; omega)).trans (block_old _ Hb3.out); have g3 : w4.frozen? ⟨b, off, none⟩ = false := frozen_of_row w4 b off cs T hb4; have g4 : w4.cell? ⟨b, off, none⟩ = some (.slice none 0 0) := by rw [cell_of_row w4 b off cs T (0, 0) hb4]; exact Hcl.out)
    all_goals (go_wp2_with fail; go_meet)
    all_goals
      have hB34 : Below w3.heap.size w3 w4 := bthen (by repeat (first | exact Below.refl _ _ | refine Below.drew ?_ | refine Below.alloc ?_ (by simp) _)) hb3 (by simp)
      refine ⟨_, heap_setCell_same w4 b off cs T _ hb4, ?_, ?_⟩
      · exact hown.mods (Mods.setCell (S := fun g => g = b) w4 rfl _) (fun g hg h => by have := (hown.lt g hg).1; have h' : g = b := h; omega)
      · exact (HM3.out.trans (Mods.of_below (S := fun g => g = b) hB34) (fun _ _ h => h)).trans (Mods.setCell (S := fun g => g = b) w4 rfl _) (fun _ _ h => h)
  case rest =>
    obtain ⟨lv, hb5, hown5, hM5⟩ := hcut
    obtain ⟨A5, c5, rfl⟩ := hown5.slice
    have hcv5 : (cs.setIfInBounds off (.slice A5 1 c5))[off + 1]? = some (.slice none 0 0) := by rw [Array.getElem?_setIfInBounds_ne (by omega)]; exact Hcv.out
    have hcl5 : (cs.setIfInBounds off (.slice A5 1 c5))[off]? = some (.slice A5 1 c5) := by
      have := (Array.getElem?_eq_some_iff.1 Hcl.out).1
      rw [Array.getElem?_setIfInBounds_self_of_lt this]
    have e1 : wc.cell? ⟨b, off + 1, none⟩ = some (.slice none 0 0) := by rw [cell_of_row wc b (off + 1) _ T (0, 0) hb5]; exact hcv5
    have hbc : b < wc.heap.size := lt_of_block hb5
    have hwc : w.heap.size ≤ wc.heap.size := hM5.size
    have Hb5 := Lib.hid hb5; have Hcl5 := Lib.hid hcl5; clear hb5 hcv5 hcl5 f0 f1 t0 t1
    go_upto_region 9 with (first
      | (go_at_call 94; refine (insertInt_nil (fun g => g = wc.heap.size) w.heap.size (.slice (some ⟨wc.heap.size, 0, none⟩) 1 1) x _ (rd_block (B := wc.heap.size) (r := [.int .i64 x]) (e := 3) ?r1) ?r2).mono ?_; (case r1 => exact block_new _ _ (by simp)); (case r2 => simp; omega); rintro e w6 ⟨v6, rfl, hown6, hb6⟩; obtain ⟨A6, c6, rfl⟩ := hown6.slice; have hb7 : w6.heap[b]? = some (.cells (cs.setIfInBounds off (.slice A5 1 c5)) T (0, 0)) := (hb6.block b (by simp; omega)).trans (block_old _ Hb5.out); have g3 : w6.frozen? ⟨b, off + 1, none⟩ = false := frozen_of_row w6 b (off + 1) _ T hb7; have g4 : w6.cell? ⟨b, off + 1, none⟩ = some (.slice none 0 0) := (hb6.cell (p := ⟨b, off + 1, none⟩) (by simp; omega)).trans (Lib.cell?_alloc_some _ e1); have g5 : w6.cell? ⟨b, off, none⟩ = some (.slice A5 1 c5) := by rw [cell_of_row w6 b off _ T (0, 0) hb7]; exact Hcl5.out)
      | (go_at_call 95; go_must (refine (glue_high b off 1 A5 1 c5 _ ?g1 ?g2 ?g3).mono ?_; (case g2 => omega); (case g3 => omega); (case g1 => exact (World.cell?_setCell_other _ _ _ _ (by simp)).trans g5)); rintro e w7 ⟨rfl, hb8⟩))
    go_wp2_with (go_at_call 95; go_must (refine (glue_low b off 0 _ ?g2).mono ?_); (case g2 => omega); rintro e w8 ⟨rfl, hb9⟩)
    go_end0
    have hB68 := hb8.trans (hb9.mono hb8.size)
    have hset := heap_setCell_same w6 b (off + 1) _ T (.slice A6 1 c6) hb7
    have hb6w := lt_of_block hb7
    have hB6 : Below wc.heap.size wc w6 := bthen ((Below.refl _ _).alloc (Nat.le_refl _) _) hb6 (by simp)
    have hS6 := Mods.setCell (S := fun g => g = b) w6 (p := ⟨b, off + 1, none⟩) rfl (.slice A6 1 c6)
    have hM6 := (Mods.of_below (S := fun g => g = b) hB6).trans hS6 (fun _ _ h => h)
    refine ⟨rfl, .slice A5 1 c5, .slice A6 1 c6, (hB68.block b (by simp; omega)).trans hset, ?_, ?_, ?_⟩
    · exact (hown5.mods hM6 (fun g hg h => by have := (hown5.lt g hg).1; have h' : g = b := h; omega)).below hB68
    · exact (hown6.mods hS6 (fun g hg h => by have := (hown6.lt g hg).1; have h' : g = b := h; omega)).below hB68
    · exact (hM5.trans hM6 (fun _ _ h => h)).trans (Mods.of_below (S := fun g => g = b) hB68) (fun _ _ h => h)
end Go.Proofs.Ytcnckmeelcfeeaa
