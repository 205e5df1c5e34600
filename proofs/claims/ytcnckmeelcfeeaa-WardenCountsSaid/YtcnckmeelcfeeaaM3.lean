/-
  Contract: a Meter's Clear.
-/
import Derived.Test.YtcnckmeelcfeeaaH1
import Derived.Laws.Tables
namespace Go.Proofs.Ytcnckmeelcfeeaa
open Go.RowKit
set_option maxRecDepth 100000

theorem clear_at (mb : Nat) (c : Nat → Int) (w : World) (h : CntAt w mb 33 257 c) : Calls Try.prog 20 #[.pointer (some ⟨mb, 0, none⟩)] w fun e w' => e = .returned (.tuple #[]) ∧ CntAt w' mb 33 257 (fun _ => 0) ∧ Mods (fun g => g = mb) w w' := by
  obtain ⟨cs, hb, hs, -⟩ := h
  have hmb := lt_of_block hb
  go_enter Try.func20, Try.ntmps20
  go_wp2_with (refine wpList_store_row rfl 33 _ _ rfl mb Try.zeroCells33 rfl rfl 33 cs hb (by kernel_rfl) (by rw [hs, Try.zeroMeter]; simp) (by rw [Try.zeroMeter]; exact Array.all_eq_true_iff_forall_mem.2 (fun v hv => by rw [(Array.mem_replicate.1 hv).2]; rfl)) ?_)
  go_end0
  refine ⟨rfl, ⟨_, setRow_heap w mb _ _ _ _ hb, by rw [Try.zeroMeter]; simp, fun j hj => by rw [Try.zeroMeter]; simp [hj]⟩, Mods.setRow (S := fun g => g = mb) w rfl _⟩
end Go.Proofs.Ytcnckmeelcfeeaa
