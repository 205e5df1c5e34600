/-
  Contract: Decide of no map.
-/
import Derived.Test.YtcnckmeelcfeeaaA14
import Derived.Test.YtcnckmeelcfeeaaLamAt
namespace Go.Proofs.Ytcnckmeelcfeeaa
open Go.RowKit
set_option maxRecDepth 100000

set_option maxHeartbeats 1000000 in
theorem decide_nil (h c l m p : Int) (lv vv : Value) (w : World) :
    Calls Try.prog 13 #[.pointer none, .agg #[.int .i64 h, .int .i64 c, .int .i64 l, .int .i64 m, .int .i64 p], lv, vv] w fun e w' => e = .returned (.tuple #[noChange, .bool false]) ∧ Below w.heap.size w w' := by
  go_enter Try.func13, Try.ntmps13
  go_wp2
  go_big_quiet (fail)
  go_wp2
  have hr := row6_set (w := ((w.alloc (.cells [.int .i64 h, .int .i64 c, .int .i64 l, .int .i64 m, .int .i64 p].toArray 23)).alloc (.cells [.int .i64 0, .int .i64 0, .int .i64 0, .int .i64 0, .int .i64 0, .int .i64 0].toArray 25)).drewN nq) (block_new (w.alloc (.cells [.int .i64 h, .int .i64 c, .int .i64 l, .int .i64 m, .int .i64 p].toArray 23)) _ (n := w.heap.size + 1) (by simp)) (.int .i64 0) (.int .i64 0) (.int .i64 0) (.int .i64 0) (.int .i64 0) (.int .i64 0)
  refine bodyPost_ret (results_row_tmp rfl _ _ (w.heap.size + 1) 25 #[.int .i64 0, .int .i64 0, .int .i64 0, .int .i64 0, .int .i64 0, .int .i64 0] (0, 0) _ rfl ?blk Try.underlying25 rfl (by kernel_rfl)) rfl ⟨rfl, ?b⟩
  case blk => exact hr.1
  case b => exact Below.trans (by (repeat (first | exact Below.refl _ _ | refine below_drewN ?_ _ | refine Below.drew ?_ | refine Below.alloc ?_ (by simp <;> omega) _))) (hr.2.below (B := w.heap.size) (by simp; omega) (fun x _ h => by omega))
end Go.Proofs.Ytcnckmeelcfeeaa
