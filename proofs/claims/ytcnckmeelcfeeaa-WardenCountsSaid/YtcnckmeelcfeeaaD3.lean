/-
  Contract: the document's example of layer 12.
-/
import Derived.Test.YtcnckmeelcfeeaaA11
import Derived.Test.YtcnckmeelcfeeaaD2
namespace Go.Proofs.Ytcnckmeelcfeeaa
open Go.RowKit
set_option maxRecDepth 100000

theorem rd_new3 (w : World) (a b c : Int) : Ints (fun g => g = w.heap.size) (w.alloc (.cells #[.int .i64 a, .int .i64 b, .int .i64 c] 3)) (.slice (some ⟨w.heap.size, 0, none⟩) 3 3) [a, b, c] := by
  refine ⟨_, 3, rfl, by simp, fun _ => ⟨_, 0, rfl, rfl, by simp, fun j hj => ?_⟩⟩
  have h := block_new w (.cells [.int .i64 a, .int .i64 b, .int .i64 c].toArray 3) rfl
  match j, hj with
  | 0, _ => exact cell_block h 0 _ rfl
  | 1, _ => exact cell_block h 1 _ rfl
  | 2, _ => exact cell_block h 2 _ rfl

set_option maxHeartbeats 2000000 in
theorem lives12 (w : World) : Calls Try.prog 16 #[] w fun e w' => e = .returned (.bool true) ∧ Below w.heap.size w w' := by
  go_enter Try.func16, Try.ntmps16
  go_wp2_with fail
  refine (new_ok _ 8 _ [0, 1, 2] _ (by omega) (by omega) (rd_new3 w 0 1 2) (by decide) (by simp)).mono ?_
  rintro e w1 ⟨ab, mb, lv, vv, mv, rfl, h1, h2, hab, hL, hV, hM, hmv, hb1⟩
  have hB1 : Below w.heap.size w w1 := ((Below.refl _ _).alloc (Nat.le_refl _) _).trans (hb1.mono (by simp))
  have HAB := Lib.hid hab; have HL := Lib.hid hL; have HV := Lib.hid hV; have HM := Lib.hid hM; have HMV := Lib.hid hmv; have HB1 := Lib.hid hB1
  clear hab hL hV hM hmv hb1 hB1
  go_wp2_with fail
  refine (decide_lives (fun _ => True) ab mb lv vv mv _ [0, 1, 2] _ (block_old _ HAB.out) ((HL.out.rd.mono (fun _ _ _ => trivial)).below ?ba) ((HV.out.rd.mono (fun _ _ _ => trivial)).below ?bb) (HM.out.below ?bc) ((HMV.out.rd.ints.mono (fun _ _ _ => trivial)).below ?bd) (by simp) ((rd_new w1 89 [.int .i64 1, .int .i64 12, .int .i64 0, .int .i64 3]).mono (fun _ _ _ => trivial))).mono ?_
  case ba => exact (Below.refl _ _).alloc (Nat.le_refl _) _
  case bb => exact (Below.refl _ _).alloc (Nat.le_refl _) _
  case bc => exact (Below.refl _ _).alloc (Nat.le_refl _) _
  case bd => exact (Below.refl _ _).alloc (Nat.le_refl _) _
  rintro e w2 ⟨rfl, hb2⟩
  have hB2 : Below w.heap.size w w2 := (HB1.out.alloc HB1.out.size _).trans (hb2.mono (Nat.le_trans HB1.out.size (by simp)))
  have HB2 := Lib.hid hB2
  clear hb2 hB2
  go_wp2
  go_ret
  exact ⟨rfl, HB2.out.alloc HB2.out.size _⟩
end Go.Proofs.Ytcnckmeelcfeeaa
