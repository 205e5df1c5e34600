/-
  Contracts: May (warden, reference), Epoch, Open.
-/
import Derived.Test.YtcnckmeelcfeeaaA1
import Derived.Lib.Hide
import Derived.Deep.DeepMust
namespace Go.Proofs.Ytcnckmeelcfeeaa
open Go.RowKit
set_option maxRecDepth 100000

def mayOne (x : Int) : Bool := decide (0 ≤ x) && decide (x ≤ 1073741824)
def may (h c l m p : Int) : Bool := mayOne h && mayOne c && mayOne l && mayOne m && mayOne p

theorem refMay_any (h c l m p : Int) (w : World) :
    Calls Try.prog 15 #[.agg #[.int .i64 h, .int .i64 c, .int .i64 l, .int .i64 m, .int .i64 p]] w fun e w' => e = .returned (.bool (may h c l m p)) ∧ Below w.heap.size w w' := by
  go_enter Try.func15, Try.ntmps15
  go_wp2
  all_goals
    go_ret
    refine ⟨ret_bool ?_, (Below.refl _ _).alloc (Nat.le_refl _) _⟩
    rw [Bool.eq_iff_iff]
    simp [may, mayOne]
    omega
theorem may_no {h c l m p : Int} {k : Nat} (hk : k < 5) (hx : mayOne (nth [h, c, l, m, p] k) = false) : may h c l m p = false := by
  match k, hk with
  | 0, _ => simp [nth] at hx; simp [may, hx]
  | 1, _ => simp [nth] at hx; simp [may, hx]
  | 2, _ => simp [nth] at hx; simp [may, hx]
  | 3, _ => simp [nth] at hx; simp [may, hx]
  | 4, _ => simp [nth] at hx; simp [may, hx]

theorem may_any (h c l m p : Int) (w : World) :
    Calls Try.prog 14 #[.agg #[.int .i64 h, .int .i64 c, .int .i64 l, .int .i64 m, .int .i64 p]] w fun e w' => e = .returned (.bool (may h c l m p)) ∧ Below w.heap.size w w' := by
  go_enter Try.func14, Try.ntmps14
  go_wp2
  have hB : Below w.heap.size w ((w.alloc (.cells #[.int .i64 h, .int .i64 c, .int .i64 l, .int .i64 m, .int .i64 p] 23)).alloc (.cells #[.int .i64 h, .int .i64 c, .int .i64 l, .int .i64 m, .int .i64 p] 3)) := by repeat (first | exact Below.refl _ _ | refine Below.alloc ?_ (by simp <;> omega) _)
  have hc : ∀ j, j < 5 → ((w.alloc (.cells #[.int .i64 h, .int .i64 c, .int .i64 l, .int .i64 m, .int .i64 p] 23)).alloc (.cells #[.int .i64 h, .int .i64 c, .int .i64 l, .int .i64 m, .int .i64 p] 3)).cell? ⟨w.heap.size + 1, j, none⟩ = some (.int .i64 (nth [h, c, l, m, p] j)) := by
    intro j hj
    have := block_new (w.alloc (.cells #[.int .i64 h, .int .i64 c, .int .i64 l, .int .i64 m, .int .i64 p] 23)) (.cells [.int .i64 h, .int .i64 c, .int .i64 l, .int .i64 m, .int .i64 p].toArray 3) (n := w.heap.size + 1) (by simp)
    refine cell_block this j _ ?_
    match j, hj with
    | 0, _ => rfl
    | 1, _ => rfl
    | 2, _ => rfl
    | 3, _ => rfl
    | 4, _ => rfl
  have Hc := Lib.hid hc; clear hc
  have HB := Lib.hid hB; clear hB
  generalize ((w.alloc (.cells #[.int .i64 h, .int .i64 c, .int .i64 l, .int .i64 m, .int .i64 p] 23)).alloc (.cells #[.int .i64 h, .int .i64 c, .int .i64 l, .int .i64 m, .int .i64 p] 3)) = w1 at *
  go_loop [17] (fun i => ∃ k : Nat, k ≤ 5 ∧ i = .int .i64 k ∧ Hid (∀ j, j < k → mayOne (nth [h, c, l, m, p] j) = true)) (fun i => 5 - (intOf i).toNat)
  case atStart => exact ⟨0, Nat.zero_le _, rfl, by simp [Hid]⟩
  case round =>
    obtain ⟨k, hk, rfl, hall⟩ := hrel
    by_cases hlt : k < 5
    · have q := Hc.out k hlt
      go_wp2
      all_goals first
        | exact ⟨⟨k + 1, by omega, by go_num, hid_step hall (by simp [mayOne]; omega)⟩, by simp [intOf]; omega⟩
        | (go_ret; exact ⟨ret_bool (may_no hlt (by simp [mayOne]; omega)).symm, HB.out⟩)
    · obtain rfl : k = 5 := by omega
      go_wp2
      go_ret
      refine ⟨ret_bool ?_, HB.out⟩
      have h0 := hall 0 (by omega)
      have h1 := hall 1 (by omega)
      have h2 := hall 2 (by omega)
      have h3 := hall 3 (by omega)
      have h4 := hall 4 (by omega)
      simp [nth] at h0 h1 h2 h3 h4
      simp [may, h0, h1, h2, h3, h4]

theorem epoch_at (ab : Nat) (ep : Int) (w : World) (h : w.cell? ⟨ab, 1, none⟩ = some (.int .i64 ep)) :
    Calls Try.prog 43 #[.pointer (some ⟨ab, 0, none⟩)] w fun e w' => e = .returned (.int .i64 ep) ∧ w = w' := by
  go_enter Try.func43, Try.ntmps43
  go_wp2
  go_ret
  exact ⟨rfl, rfl⟩
theorem open_at (D : Nat → Prop) (ab : Nat) (ov : Value) (l : List Int) (w : World) (h : w.cell? ⟨ab, 3, none⟩ = some ov) (hi : Ints D w ov l) (hl : l.length * 8 ≤ 140737488355328) :
    Calls Try.prog 44 #[.pointer (some ⟨ab, 0, none⟩)] w fun e w' => ∃ v', e = .returned v' ∧ OwnR w' w.heap.size 3 1 v' (irows l) ∧ Below w.heap.size w w' := by
  have hi' := hi
  obtain ⟨A, c, rfl, -, -⟩ := hi'
  go_enter Try.func44, Try.ntmps44
  go_wp2_with (go_at_call 69; go_must (refine (cloneInt_any D _ l _ hi hl).mono ?_; rintro e w1 ⟨v1, rfl, hown, hb1⟩; obtain ⟨A1, c1, rfl⟩ := hown.slice))
  go_ret
  exact ⟨_, rfl, hown, hb1⟩
end Go.Proofs.Ytcnckmeelcfeeaa
