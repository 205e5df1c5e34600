/-
  Contracts: own (no Past), lay into an empty map, New.
-/
import Derived.Test.YtcnckmeelcfeeaaA8
namespace Go.Proofs.Ytcnckmeelcfeeaa
open Go.RowKit
set_option maxRecDepth 100000

theorem blk_other {w : World} {b : Nat} {o : Obj} (h : w.heap[b]? = some o) {p : Addr} (hne : p.block ≠ b) (v : Value) : (w.setCell p v).heap[b]? = some o := by
  have hm := Mods.setCell (S := fun g => g = p.block) w rfl v
  exact (hm.block b (lt_of_block h) (fun e => hne e.symm)).trans h

set_option maxHeartbeats 1000000 in
theorem own_none (D : Nat → Prop) (id f t : Int) (mv : Value) (l : List Int) (w : World) (hm : Ints D w mv l) (hl : l.length * 8 ≤ 140737488355328) :
    Calls Try.prog 55 #[.agg #[.int .i64 id, .int .i64 f, .int .i64 t, mv, .slice none 0 0]] w fun e w' => ∃ mv', e = .returned (.agg #[.int .i64 id, .int .i64 f, .int .i64 t, mv', .slice none 0 0]) ∧ OwnR w' w.heap.size 3 1 mv' (irows l) ∧ Below w.heap.size w w' := by
  have hm' := hm
  obtain ⟨A, c, rfl, -, -⟩ := hm'
  go_enter Try.func55, Try.ntmps55
  go_wp2_with (go_at_call 69; go_must (refine (cloneInt_any D (.slice A l.length c) l _ (hm.below ?b) hl).mono ?_; (case b => exact Below.alloc (Below.alloc (Below.refl _ _) (Nat.le_refl _) _) (by simp) _); rintro e w1 ⟨mv', rfl, hown, hb1⟩; have hv := hown.slice; rw [irows_length] at hv; obtain ⟨A1, c1, rfl⟩ := hv; have hz1 := hb1.size; simp at hz1; have k1 : w1.heap[w.heap.size]? = some (.cells [.int .i64 id, .int .i64 f, .int .i64 t, .slice A l.length c, .slice none 0 0].toArray 56 (0, 0)) := (hb1.block _ (by simp; omega)).trans (block_old _ (block_new _ _ rfl)); have k2 : w1.heap[w.heap.size + 1]? = some (.cells [.int .i64 0, .int .i64 0, .int .i64 0, .slice none 0 0, .slice none 0 0].toArray 56 (0, 0)) := (hb1.block _ (by simp)).trans (block_new _ _ (by simp)); have s0 := cell_block k1 0 _ rfl; have s1 := cell_block k1 1 _ rfl; have s2 := cell_block k1 2 _ rfl; have s3 := cell_block k1 3 _ rfl; have s4 := cell_block k1 4 _ rfl; have fs3 := frozen_of_row w1 _ 3 _ _ k1; have fs4 := frozen_of_row w1 _ 4 _ _ k1; have z0 := cell_block k2 0 _ rfl; have z1 := cell_block k2 1 _ rfl; have z2 := cell_block k2 2 _ rfl; have z3 := cell_block k2 3 _ rfl; have z4 := cell_block k2 4 _ rfl; have fz0 := frozen_of_row w1 _ 0 _ _ k2; have fz1 := frozen_of_row w1 _ 1 _ _ k2; have fz2 := frozen_of_row w1 _ 2 _ _ k2; have fz3 := frozen_of_row w1 _ 3 _ _ k2; have fz4 := frozen_of_row w1 _ 4 _ _ k2))
  refine wp_loop_rounds 1 ?_
  rw [rounds_succ]
  go_wp2
  have S1 := Mods.setCell (S := fun g => g = w.heap.size ∨ g = w.heap.size + 1) w1 (p := ⟨w.heap.size, 3, none⟩) (.inl rfl) (.slice A1 l.length c1)
  have S2 := S1.trans (Mods.setCell (S := fun g => g = w.heap.size ∨ g = w.heap.size + 1) _ (p := ⟨w.heap.size, 4, none⟩) (.inl rfl) (.slice none 0 0)) (fun _ _ h => h)
  have S3 := S2.trans (Mods.setCell (S := fun g => g = w.heap.size ∨ g = w.heap.size + 1) _ (p := ⟨w.heap.size + 1, 0, none⟩) (.inr rfl) (.int .i64 id)) (fun _ _ h => h)
  have S4 := S3.trans (Mods.setCell (S := fun g => g = w.heap.size ∨ g = w.heap.size + 1) _ (p := ⟨w.heap.size + 1, 1, none⟩) (.inr rfl) (.int .i64 f)) (fun _ _ h => h)
  have S5 := S4.trans (Mods.setCell (S := fun g => g = w.heap.size ∨ g = w.heap.size + 1) _ (p := ⟨w.heap.size + 1, 2, none⟩) (.inr rfl) (.int .i64 t)) (fun _ _ h => h)
  have S6 := S5.trans (Mods.setCell (S := fun g => g = w.heap.size ∨ g = w.heap.size + 1) _ (p := ⟨w.heap.size + 1, 3, none⟩) (.inr rfl) (.slice A1 l.length c1)) (fun _ _ h => h)
  have S7 := S6.trans (Mods.setCell (S := fun g => g = w.heap.size ∨ g = w.heap.size + 1) _ (p := ⟨w.heap.size + 1, 4, none⟩) (.inr rfl) (.slice none 0 0)) (fun _ _ h => h)
  have hB := ((Below.refl w.heap.size w).alloc (Nat.le_refl _) (.cells [.int .i64 id, .int .i64 f, .int .i64 t, .slice A l.length c, .slice none 0 0].toArray 56)).alloc (by simp) (.cells [.int .i64 0, .int .i64 0, .int .i64 0, .slice none 0 0, .slice none 0 0].toArray 56)
  have hB1 : Below w.heap.size w w1 := bthen hB hb1 (by simp; omega)
  refine bodyPost_ret (results_cell_row rfl _ _ (w.heap.size + 1) 56 #[.int .i64 id, .int .i64 f, .int .i64 t, .slice A1 l.length c1, .slice none 0 0] (0, 0) _ rfl ?blk Try.underlying56 rfl (by kernel_rfl)) rfl ⟨.slice A1 l.length c1, rfl, ?own, hB1.trans (S7.below (by omega) (fun x _ h => by rcases h with h | h <;> omega))⟩
  case own => exact (hown.mods S7 (fun g hg h => by have := (hown.lt g hg).1; simp at this; rcases h with h | h <;> omega)).rebase (fun g hg => by have := (hown.lt g hg).1; simp at this; omega)
  case blk => exact heap_setCell_same _ _ 4 _ _ _ (heap_setCell_same _ _ 3 _ _ _ (heap_setCell_same _ _ 2 _ _ _ (heap_setCell_same _ _ 1 _ _ _ (heap_setCell_same _ _ 0 _ _ _ (blk_other (blk_other k2 (by simp) _) (by simp) _)))))
end Go.Proofs.Ytcnckmeelcfeeaa
