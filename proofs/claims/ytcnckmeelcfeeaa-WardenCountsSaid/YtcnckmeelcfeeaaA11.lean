/-
  Contract: New.
-/
import Derived.Test.YtcnckmeelcfeeaaA10
namespace Go.Proofs.Ytcnckmeelcfeeaa
open Go.RowKit
set_option maxRecDepth 100000

set_option maxHeartbeats 1000000 in
theorem new_ok (D : Nat → Prop) (n : Int) (mv : Value) (l : List Int) (w : World) (hn : 1 ≤ n) (hn' : n ≤ 256) (hm : Ints D w mv l) (him : isMembers l = true) (hl : l.length * 8 ≤ 140737488355328) :
    Calls Try.prog 32 #[.int .i64 n, mv] w fun e w' => ∃ ab mb lv vv mv', e = .returned (.tuple #[.pointer (some ⟨ab, 0, none⟩), .int .i64 0]) ∧ w.heap.size ≤ ab ∧ w.heap.size ≤ mb ∧ 
      w'.heap[ab]? = some (.cells #[.int .i64 n, .int .i64 1, .int .i64 2, .slice none 0 0, lv, vv, .map (some mb)] 98 (0, 0)) ∧ OwnR w' w.heap.size 36 2 lv [srow ⟨0, n⟩] ∧ OwnR w' w.heap.size 3 1 vv [[.int .i64 1]] ∧
      MapOf w' mb [(1, .agg #[.int .i64 1, .int .i64 0, .int .i64 n, mv', .slice none 0 0])] ∧ OwnR w' w.heap.size 3 1 mv' (irows l) ∧ Below w.heap.size w w' := by
  have hm' := hm
  obtain ⟨A, c, rfl, -, -⟩ := hm'
  go_enter Try.func32, Try.ntmps32
  have mk := fun w => mk_map (P := Try.prog) w 96
  go_wp2_with (first
    | (go_at_call 28; go_must (refine (isMembers_any D _ l _ hm).mono ?_; rintro e w1 ⟨rfl, rfl⟩; rw [him]))
    | (go_at_call 53; go_must (refine (lay_first D (w.heap.size + 1) w.heap.size n 1 2 (.slice none 0 0) 1 0 n (.slice A l.length c) l [] _ ?la ?lm ?li ?lo (hm.below ?lb) hl).mono ?_; (case la => exact block_new _ _ (by simp)); (case lm => exact (MapOf.made w).below ((Below.refl _ _).alloc (Nat.le_refl _) _)); (case li => intro p hp; cases hp); (case lo => omega); (case lb => (repeat (first | exact Below.refl _ _ | refine below_drewN ?_ _ | refine Below.drew ?_ | refine Below.alloc ?_ (by simp <;> omega) _))); rintro e w2 ⟨rfl, lv, vv, mv', h1, h2, h3, h4, h5, h6⟩)))
  go_ret2
  have hB : Below w.heap.size w w2 := Below.trans (by (repeat (first | exact Below.refl _ _ | refine below_drewN ?_ _ | refine Below.drew ?_ | refine Below.alloc ?_ (by simp <;> omega) _))) (h6.below (B := w.heap.size) (by simp <;> omega) (fun x _ h => by omega))
  exact ⟨w.heap.size + 1, w.heap.size, lv, vv, mv', rfl, by omega, Nat.le_refl _, h1, h2.rebase (fun g hg => by have := (h2.lt g hg).1; simp at this; omega), h3.rebase (fun g hg => by have := (h3.lt g hg).1; simp at this; omega), h4, h5.rebase (fun g hg => by have := (h5.lt g hg).1; simp at this; omega), hB⟩
end Go.Proofs.Ytcnckmeelcfeeaa
