/-
  The middle of a span's counts, as the law reckons it. No program in it.
-/
import Derived.Test.YtcnckmeelcfeeaaLamCnt
namespace Go.Proofs.Ytcnckmeelcfeeaa
open Go.RowKit

def pin (f t : Int) : Int → Bool := fun j => decide (f ≤ j) && decide (j < t)
theorem pin_iff {f t j : Int} : pin f t j = true ↔ f ≤ j ∧ j < t := by simp [pin]
theorem sumIf_pin {c : Nat → Int} {f t : Int} : ∀ {b : Nat}, (b : Int) ≤ t → sumIf (pin f t) c b = sumTo c (max f 0) b
  | 0, _ => rfl
  | b + 1, h => by
    unfold sumIf sumTo
    rw [sumIf_pin (by omega)]
    by_cases h1 : max f 0 ≤ (b : Int)
    · rw [if_pos h1, if_pos (pin_iff.2 (by omega))]
    · rw [if_neg h1, if_neg (show ¬ pin f t (b : Int) = true from fun h2 => by have := pin_iff.1 h2; omega)]
theorem sumIf_past {c : Nat → Int} {f t : Int} {n : Nat} (h : t ≤ (n : Int)) : ∀ {d : Nat}, sumIf (pin f t) c (n + d) = sumIf (pin f t) c n
  | 0 => rfl
  | d + 1 => by
    show sumIf (pin f t) c (n + d) + (if pin f t ((n + d : Nat) : Int) = true then c (n + d) else 0) = _
    rw [sumIf_past h, if_neg (show ¬ pin f t ((n + d : Nat) : Int) = true from fun h2 => by have := pin_iff.1 h2; omega)]; omega
theorem sumIf_all {c : Nat → Int} {f t : Int} : sumIf (pin f t) c 256 = sumTo c (max f 0) (min t 256).toNat := by
  by_cases h : 256 ≤ t
  · rw [show (min t 256).toNat = 256 by omega]; exact sumIf_pin (by omega)
  · by_cases h0 : 0 ≤ t
    · have e := sumIf_past (c := c) (f := f) (t := t) (n := t.toNat) (by omega) (d := 256 - t.toNat)
      rw [show t.toNat + (256 - t.toNat) = 256 by omega] at e
      rw [e, show (min t 256).toNat = t.toNat by omega]; exact sumIf_pin (by omega)
    · have e := sumIf_past (c := c) (f := f) (t := t) (n := 0) (by omega) (d := 256)
      rw [Nat.zero_add] at e
      rw [e, show (min t 256).toNat = 0 by omega]; rfl
def LMid (c : Nat → Int) (f t m : Int) : Prop :=
  (∃ k : Nat, k < 256 ∧ m = k ∧ pin f t k = true ∧ 0 < sumIf (pin f t) c 256 ∧ sumIf (pin f t) c 256 ≤ 2 * sumIf (pin f t) c (k + 1) ∧ ∀ j : Nat, j < k → pin f t j = true → 2 * sumIf (pin f t) c (j + 1) < sumIf (pin f t) c 256) ∨
  (m = f ∧ ∀ j : Nat, j < 256 → pin f t j = true → ¬ (0 < sumIf (pin f t) c 256 ∧ sumIf (pin f t) c 256 ≤ 2 * sumIf (pin f t) c (j + 1)))
theorem mid_unique {c : Nat → Int} {f t r m : Int} (h : MidIs c f t r) (k : LMid c f t m) : r = m := by
  unfold MidIs at h
  rw [← sumIf_all] at h
  have hs : ∀ j : Nat, (j : Int) < t → sumTo c (max f 0) (j + 1) = sumIf (pin f t) c (j + 1) := fun j hj => (sumIf_pin (by omega)).symm
  unfold LMid at k
  generalize sumIf (pin f t) c 256 = A at *
  rcases h with ⟨a, rfl, h1, h2, h3, h4, h5⟩ | ⟨rfl, h1⟩
  · rw [hs a (by omega)] at h4
    rcases k with ⟨b, hb, rfl, k1, k2, k3, k4⟩ | ⟨rfl, k1⟩
    · have kb := pin_iff.1 k1
      rcases Nat.lt_trichotomy a b with hlt | rfl | hlt
      · have := k4 a hlt (pin_iff.2 (by omega)); omega
      · rfl
      · have h6 := h5 b (by omega) hlt
        rw [hs b (by omega)] at h6; omega
    · exact absurd ⟨h3, h4⟩ (k1 a (by omega) (pin_iff.2 (by omega)))
  · rcases k with ⟨b, hb, rfl, k1, k2, k3, k4⟩ | ⟨rfl, k1⟩
    · have kb := pin_iff.1 k1
      have := h1 b (by omega) (by omega)
      rw [hs b (by omega)] at this
      exact absurd ⟨k2, k3⟩ this
    · rfl
theorem mid_none {f t r : Int} (h : MidIs (fun _ => 0) f t r) : r = f := by
  have hz : ∀ b, sumTo (fun _ => 0) (max f 0) b = 0 := by
    intro b
    induction b with
    | zero => rfl
    | succ b ih => unfold sumTo; rw [ih]; split <;> rfl
  rcases h with ⟨a, rfl, h1, h2, h3, h4, h5⟩ | ⟨rfl, h1⟩
  · rw [hz] at h3; omega
  · rfl
/-- The law's last loop, m rounds done. -/
def LRun (c : Nat → Int) (f t : Int) (m : Nat) (part mid found : Value) : Prop :=
  (found = .bool false ∧ mid = .int .i64 f ∧ part = .int .i64 (if 0 < sumIf (pin f t) c 256 then sumIf (pin f t) c m else 0) ∧ ∀ j : Nat, j < m → pin f t j = true → ¬ (0 < sumIf (pin f t) c 256 ∧ sumIf (pin f t) c 256 ≤ 2 * sumIf (pin f t) c (j + 1))) ∨
  (found = .bool true ∧ ∃ (k : Nat) (x : Int), mid = .int .i64 k ∧ part = .int .i64 x ∧ k < m ∧ pin f t k = true ∧ 0 < sumIf (pin f t) c 256 ∧ sumIf (pin f t) c 256 ≤ 2 * sumIf (pin f t) c (k + 1) ∧ ∀ j : Nat, j < k → pin f t j = true → 2 * sumIf (pin f t) c (j + 1) < sumIf (pin f t) c 256)
theorem LRun.start (c : Nat → Int) (f t : Int) : LRun c f t 0 (.int .i64 0) (.int .i64 f) (.bool false) := .inl ⟨rfl, rfl, by rw [show sumIf (pin f t) c 0 = 0 from rfl, ite_self], fun j hj => by omega⟩
theorem LRun.end_ {c : Nat → Int} {f t : Int} {part mid found : Value} (h : LRun c f t 256 part mid found) : ∃ (m x : Int) (b : Bool), mid = .int .i64 m ∧ part = .int .i64 x ∧ found = .bool b ∧ LMid c f t m := by
  rcases h with ⟨rfl, rfl, rfl, h⟩ | ⟨rfl, k, x, rfl, rfl, h1, h2, h3, h4, h5⟩
  · exact ⟨f, _, _, rfl, rfl, rfl, .inr ⟨rfl, h⟩⟩
  · exact ⟨k, _, _, rfl, rfl, rfl, .inl ⟨k, h1, rfl, h2, h3, h4, h5⟩⟩
end Go.Proofs.Ytcnckmeelcfeeaa
