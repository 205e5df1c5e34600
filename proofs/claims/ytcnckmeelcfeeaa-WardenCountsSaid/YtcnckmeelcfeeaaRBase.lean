/-
  What all rows of this seat share: two closed facts of the program, and slices of spans opened as arguments.
-/
import Derived.Test.YtcnckmeelcfeeaaRows
import Derived.Test.YtcnckmeelcfeeaaLamAgg
import Derived.Test.YtcnckmeelcfeeaaLamSp
namespace Go.Proofs.Ytcnckmeelcfeeaa
open Go.ChangeShapes Go.WideShapes Go.ChangeAt Go.RowKit

set_option maxRecDepth 100000
theorem Try.own : ownKnob Try.prog.godebug = none := by kernel_rfl
theorem Try.laidOut : laidOutB Try.prog = true := by kernel_rfl

theorem rows_spans : ∀ (rows : List (List Int)), (∀ r ∈ rows, r.length = 2) → ∃ ss : List Sp, rows.map (fun r => r.map (Value.int .i64)) = srows ss
  | [], _ => ⟨[], rfl⟩
  | r :: rows, h => by
    obtain ⟨ss, hs⟩ := rows_spans rows (fun r hr => h r (by simp [hr]))
    obtain ⟨a, b, rfl⟩ := list2 (h r (by simp))
    exact ⟨⟨a, b⟩ :: ss, by simp [srows, srow] at hs ⊢; exact hs⟩

section
variable {H : Type} {enc : TypeId × Value → H} {w : World} {base : Nat} {spare : Nat → Bool} {held : Bool}
theorem open_spans {r : Reach} {b0 : Nat} {v : Value} {d : DataW H} {p : List MemPlace} (hv : Value.okWide Try.prog w r b0 30 v) (h : DataW.Trod enc Try.prog w base spare held 30 v d p) : ∃ ss : List Sp, Rd (fun _ => True) w 2 v (srows ss) := by
  obtain ⟨rows, h1, h2⟩ := open_rows (ti := 3) Try.underlying30 Try.underlying36 (by kernel_rfl) (by kernel_rfl) (by decide) Try.underlying3 (by kernel_rfl) hv h
  obtain ⟨ss, hs⟩ := rows_spans rows h1
  rw [hs] at h2
  exact ⟨ss, h2⟩
theorem open_span {r : Reach} {b0 : Nat} {v : Value} {d : DataW H} {p : List MemPlace} (hv : Value.okWide Try.prog w r b0 36 v) (h : DataW.Trod enc Try.prog w base spare held 36 v d p) : ∃ f t : Int, v = .agg #[.int .i64 f, .int .i64 t] := by
  obtain ⟨l, rfl, hl, -⟩ := open_ints (ti := 3) Try.underlying36 (by kernel_rfl) (by kernel_rfl) Try.underlying3 (by kernel_rfl) hv h
  obtain ⟨a, b, rfl⟩ := list2 hl
  exact ⟨a, b, rfl⟩
end
end Go.Proofs.Ytcnckmeelcfeeaa
