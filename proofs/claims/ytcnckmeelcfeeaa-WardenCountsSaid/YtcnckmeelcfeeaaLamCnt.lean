/-
  Rows of counts. No program in it.
-/
import Derived.Test.YtcnckmeelcfeeaaLamAt
namespace Go.Proofs.Ytcnckmeelcfeeaa
open Go.RowKit

/-- Block b has just the numbers c 0 .. c (N - 1). -/
def CntAt (w : World) (b : Nat) (T : TypeId) (N : Nat) (c : Nat → Int) : Prop := ∃ cs, w.heap[b]? = some (.cells cs T (0, 0)) ∧ cs.size = N ∧ ∀ j, j < N → cs[j]? = some (.int .i64 (c j))
def upd (c : Nat → Int) (k : Nat) (v : Int) : Nat → Int := fun j => if j = k then v else c j
theorem CntAt.lt {w : World} {b : Nat} {T : TypeId} {N : Nat} {c : Nat → Int} (h : CntAt w b T N c) : b < w.heap.size := by
  obtain ⟨cs, h, -⟩ := h
  exact lt_of_block h
theorem CntAt.cell {w : World} {b : Nat} {T : TypeId} {N : Nat} {c : Nat → Int} (h : CntAt w b T N c) {k : Nat} (hk : k < N) : w.cell? ⟨b, k, none⟩ = some (.int .i64 (c k)) := by
  obtain ⟨cs, h, -, hc⟩ := h
  rw [cell_of_row w b k cs T (0, 0) h]; exact hc k hk
theorem CntAt.free {w : World} {b : Nat} {T : TypeId} {N : Nat} {c : Nat → Int} (h : CntAt w b T N c) (k : Nat) : w.frozen? ⟨b, k, none⟩ = false := by
  obtain ⟨cs, h, -, hc⟩ := h
  exact frozen_of_row w b k cs T h
theorem CntAt.set {w : World} {b : Nat} {T : TypeId} {N : Nat} {c : Nat → Int} (h : CntAt w b T N c) {k : Nat} (hk : k < N) (v : Int) : CntAt (w.setCell ⟨b, k, none⟩ (.int .i64 v)) b T N (upd c k v) := by
  obtain ⟨cs, h, hs, hc⟩ := h
  refine ⟨_, heap_setCell_same w b k cs T _ h, by simp [hs], fun j hj => ?_⟩
  unfold upd
  by_cases e : j = k
  · subst e; rw [if_pos rfl]; simp [hs, hj]
  · rw [if_neg e, Array.getElem?_setIfInBounds_ne (fun h => e h.symm)]; exact hc j hj
theorem CntAt.mods {S : Nat → Prop} {w w' : World} {b : Nat} {T : TypeId} {N : Nat} {c : Nat → Int} (h : CntAt w b T N c) (hm : Mods S w w') (hS : ¬ S b) : CntAt w' b T N c := by
  obtain ⟨cs, h, hc⟩ := h
  exact ⟨cs, (hm.block b (lt_of_block h) hS).trans h, hc⟩
theorem CntAt.below {w w' : World} {b : Nat} {T : TypeId} {N : Nat} {c : Nat → Int} (h : CntAt w b T N c) (hb : Below w.heap.size w w') : CntAt w' b T N c := by
  obtain ⟨cs, h, hc⟩ := h
  exact ⟨cs, (hb.block b (lt_of_block h)).trans h, hc⟩
theorem CntAt.drew {w : World} {b : Nat} {T : TypeId} {N : Nat} {c : Nat → Int} (h : CntAt w b T N c) : CntAt w.drew b T N c := h
theorem CntAt.congr {w : World} {b : Nat} {T : TypeId} {N : Nat} {c c' : Nat → Int} (h : CntAt w b T N c) (he : ∀ j, j < N → c j = c' j) : CntAt w b T N c' := by
  obtain ⟨cs, h, hs, hc⟩ := h
  exact ⟨cs, h, hs, fun j hj => by rw [hc j hj, he j hj]⟩

/-- A count more on each of the blocks from f on, below t and below b; index 256: how many commands. -/
def noteTo (c : Nat → Int) (f t b : Int) : Nat → Int := fun j => if j = 256 then c 256 + 1 else if f ≤ (j : Int) ∧ (j : Int) < t ∧ (j : Int) < b then c j + 1 else c j
def note (c : Nat → Int) (f t : Int) : Nat → Int := noteTo c f t 256
theorem noteTo_step {c : Nat → Int} {f t : Int} {k : Nat} (h0 : f ≤ (k : Int)) (h1 : (k : Int) < t) (h2 : k < 256) (j : Nat) (hj : j < 257) : upd (noteTo c f t k) k (c k + 1) j = noteTo c f t (k + 1) j := by
  unfold upd noteTo
  by_cases e : j = k
  · subst e
    rw [if_pos rfl, if_neg (by omega), if_pos (by omega)]
  · rw [if_neg e]
    by_cases e2 : j = 256
    · rw [if_pos e2, if_pos e2]
    · rw [if_neg e2, if_neg e2]
      by_cases e3 : f ≤ (j : Int) ∧ (j : Int) < t ∧ (j : Int) < k
      · rw [if_pos e3, if_pos (by omega)]
      · rw [if_neg e3, if_neg (by omega)]
theorem noteTo_at {c : Nat → Int} {f t : Int} {k : Nat} (h2 : k < 256) : noteTo c f t k k = c k := by
  unfold noteTo
  rw [if_neg (by omega), if_neg (by omega)]
theorem noteTo_end {c : Nat → Int} {f t b : Int} (h : t ≤ b ∨ 256 ≤ b) (j : Nat) (hj : j < 257) : noteTo c f t b j = note c f t j := by
  unfold note noteTo
  by_cases e2 : j = 256
  · rw [if_pos e2, if_pos e2]
  · rw [if_neg e2, if_neg e2]
    by_cases e3 : f ≤ (j : Int) ∧ (j : Int) < t ∧ (j : Int) < b
    · rw [if_pos e3, if_pos (by omega)]
    · rw [if_neg e3, if_neg (by omega)]
theorem noteTo_start {c : Nat → Int} {f t b : Int} (h : b ≤ f ∨ b ≤ 0) (j : Nat) (hj : j < 257) : upd c 256 (c 256 + 1) j = noteTo c f t b j := by
  unfold upd noteTo
  by_cases e2 : j = 256
  · rw [if_pos e2, if_pos e2]
  · rw [if_neg e2, if_neg e2, if_neg (by omega)]

theorem noteTo_zero {c : Nat → Int} {f t : Int} (j : Nat) (hj : j < 256) : c j = noteTo c f t 0 j := by
  unfold noteTo
  rw [if_neg (by omega), if_neg (by omega)]
theorem noteTo_skip {c : Nat → Int} {f t : Int} {k : Nat} (h : ¬ (f ≤ (k : Int) ∧ (k : Int) < t)) (j : Nat) (hj : j < 256) : noteTo c f t k j = noteTo c f t (k + 1) j := by
  unfold noteTo
  rw [if_neg (show ¬ j = 256 by omega), if_neg (show ¬ j = 256 by omega)]
  by_cases e : f ≤ (j : Int) ∧ (j : Int) < t ∧ (j : Int) < k
  · rw [if_pos e, if_pos (by omega)]
  · rw [if_neg e, if_neg]
    intro h2
    have : j ≠ k := by intro e2; subst e2; exact h ⟨h2.1, h2.2.1⟩
    omega
/-- The sum of c from a on, below b. -/
def sumTo (c : Nat → Int) (a : Int) : Nat → Int
  | 0 => 0
  | b + 1 => sumTo c a b + (if a ≤ (b : Int) then c b else 0)
theorem sumTo_zero {c : Nat → Int} {a : Int} : ∀ {b : Nat}, (b : Int) ≤ a → sumTo c a b = 0
  | 0, _ => rfl
  | b + 1, h => by
    unfold sumTo
    rw [sumTo_zero (by omega), if_neg (by omega)]; rfl
theorem sumTo_step {c : Nat → Int} {a : Int} {b : Nat} (h : a ≤ (b : Int)) : sumTo c a (b + 1) = sumTo c a b + c b := by
  show sumTo c a b + (if a ≤ (b : Int) then c b else 0) = _
  rw [if_pos h]
theorem sumTo_bd {c : Nat → Int} {a : Int} (M : Int) (hM : 0 ≤ M) : ∀ {b : Nat}, b ≤ 256 → (∀ j, j < 257 → 0 ≤ c j) → (∀ j, j < 257 → c j ≤ M) → 0 ≤ sumTo c a b ∧ sumTo c a b ≤ M * b
  | 0, _, _, _ => by simp [sumTo]
  | b + 1, h, h0, h1 => by
    obtain ⟨l, u⟩ := sumTo_bd (a := a) M hM (b := b) (by omega) h0 h1
    have h2 := h0 b (by omega)
    have h3 := h1 b (by omega)
    unfold sumTo
    have e : M * ((b + 1 : Nat) : Int) = M * b + M := by rw [Int.natCast_add, Int.mul_add]; simp
    rw [e]
    split <;> omega
theorem sumTo_mono {c : Nat → Int} {a : Int} (h0 : ∀ j, j < 257 → 0 ≤ c j) {b : Nat} : ∀ {d : Nat}, b + d ≤ 256 → sumTo c a b ≤ sumTo c a (b + d)
  | 0, _ => Int.le_refl _
  | d + 1, h => by
    have h1 := sumTo_mono (a := a) h0 (b := b) (d := d) (by omega)
    have h2 := h0 (b + d) (by omega)
    show _ ≤ sumTo c a (b + d) + (if a ≤ ((b + d : Nat) : Int) then c (b + d) else 0)
    split <;> omega
/-- The block in whose midst the counts of a span lie. -/
def MidIs (c : Nat → Int) (f t r : Int) : Prop :=
  (∃ k : Nat, r = k ∧ max f 0 ≤ (k : Int) ∧ (k : Int) < min t 256 ∧ 0 < sumTo c (max f 0) (min t 256).toNat ∧ sumTo c (max f 0) (min t 256).toNat ≤ 2 * sumTo c (max f 0) (k + 1) ∧ ∀ j : Nat, max f 0 ≤ (j : Int) → j < k → 2 * sumTo c (max f 0) (j + 1) < sumTo c (max f 0) (min t 256).toNat) ∨
  (r = f ∧ ∀ j : Nat, max f 0 ≤ (j : Int) → (j : Int) < min t 256 → ¬ (0 < sumTo c (max f 0) (min t 256).toNat ∧ sumTo c (max f 0) (min t 256).toNat ≤ 2 * sumTo c (max f 0) (j + 1)))

/-- The sum of those c that p names, below b. -/
def sumIf (p : Int → Bool) (c : Nat → Int) : Nat → Int
  | 0 => 0
  | b + 1 => sumIf p c b + (if p (b : Int) = true then c b else 0)
theorem sumIf_bd {p : Int → Bool} {c : Nat → Int} (M : Int) (hM : 0 ≤ M) : ∀ {b : Nat}, b ≤ 256 → (∀ j, 0 ≤ c j ∧ c j ≤ M) → 0 ≤ sumIf p c b ∧ sumIf p c b ≤ M * b
  | 0, _, _ => by simp [sumIf]
  | b + 1, h, h0 => by
    obtain ⟨l, u⟩ := sumIf_bd (p := p) M hM (b := b) (by omega) h0
    have h2 := h0 b
    unfold sumIf
    have e : M * ((b + 1 : Nat) : Int) = M * b + M := by rw [Int.natCast_add, Int.mul_add]; simp
    rw [e]
    split <;> omega
theorem sumIf_lt {c : Nat → Int} {k : Nat} : ∀ {d : Nat}, sumIf (fun j => decide (j < (k : Int))) c (k + d) = sumTo c 0 k
  | 0 => by
    have h : ∀ b, b ≤ k → sumIf (fun j => decide (j < (k : Int))) c b = sumTo c 0 b := by
      intro b
      induction b with
      | zero => intro _; rfl
      | succ b ih =>
        intro h
        unfold sumIf sumTo
        rw [ih (by omega), if_pos (by simp; omega), if_pos (by omega)]
    exact h k (Nat.le_refl _)
  | d + 1 => by
    show sumIf _ c (k + d) + _ = _
    rw [sumIf_lt, if_neg (by simp; omega)]; omega
theorem sumIf_gt {c : Nat → Int} {k : Nat} : ∀ {d : Nat}, sumIf (fun j => decide ((k : Int) < j)) c (k + 1 + d) = sumTo c 0 (k + 1 + d) - sumTo c 0 (k + 1)
  | 0 => by
    have h : ∀ b, b ≤ k + 1 → sumIf (fun j => decide ((k : Int) < j)) c b = 0 := by
      intro b
      induction b with
      | zero => intro _; rfl
      | succ b ih =>
        intro h
        unfold sumIf
        rw [ih (by omega), if_neg (by simp; omega)]; rfl
    rw [h _ (by omega)]; simp
  | d + 1 => by
    show sumIf _ c (k + 1 + d) + _ = sumTo c 0 (k + 1 + d) + _ - _
    rw [sumIf_gt, if_pos (by simp; omega), if_pos (by omega)]; omega
theorem sumIf_eq {p q : Int → Bool} {c : Nat → Int} (h : ∀ x, p x = q x) : ∀ b, sumIf p c b = sumIf q c b
  | 0 => rfl
  | b + 1 => by unfold sumIf; rw [sumIf_eq h b, h]

/-- At most half lies ahead of the middle, at most half behind it. -/
theorem mid_halves {c : Nat → Int} (h0 : ∀ j, 0 ≤ c j) {r : Int} (h : MidIs c 0 256 r) :
    0 ≤ r ∧ r < 256 ∧ 2 * sumIf (fun j => decide (j < r)) c 256 ≤ sumTo c 0 256 ∧ 2 * sumIf (fun j => decide (r < j)) c 256 ≤ sumTo c 0 256 := by
  have hp : ∀ b, b ≤ 256 → 0 ≤ sumTo c 0 b := fun b hb => by
    have := sumTo_mono (c := c) (a := 0) (fun j _ => h0 j) (b := 0) (d := b) (by omega)
    simpa [sumTo] using this
  rcases h with ⟨k, rfl, h1, h2, h3, h4, h5⟩ | ⟨rfl, h1⟩
  · simp only [Int.max_self, Int.min_self] at h1 h2 h3 h4 h5
    have hk : k < 256 := by omega
    rw [show (256 : Int).toNat = 256 from rfl] at h3 h4 h5
    have e1 : sumIf (fun j => decide (j < (k : Int))) c 256 = sumTo c 0 k := by
      have := sumIf_lt (c := c) (k := k) (d := 256 - k)
      rwa [show k + (256 - k) = 256 by omega] at this
    have e2 : sumIf (fun j => decide ((k : Int) < j)) c 256 = sumTo c 0 256 - sumTo c 0 (k + 1) := by
      have := sumIf_gt (c := c) (k := k) (d := 256 - (k + 1))
      rwa [show k + 1 + (256 - (k + 1)) = 256 by omega] at this
    rw [e1, e2]
    refine ⟨by omega, by omega, ?_, by omega⟩
    cases k with
    | zero => have h6 := hp 256 (by omega); show 2 * 0 ≤ sumTo c 0 256; omega
    | succ k =>
      have := h5 k (by omega) (by omega)
      omega
  · simp only [Int.max_self, Int.min_self] at h1
    rw [show (256 : Int).toNat = 256 from rfl] at h1
    have h2 := h1 255 (by omega) (by omega)
    have h3 := hp 256 (by omega)
    rw [show 255 + 1 = 256 from rfl] at h2
    have h4 : sumTo c 0 256 = 0 := by omega
    have e1 : sumIf (fun j => decide (j < (0 : Int))) c 256 = 0 := by
      have := sumIf_lt (c := c) (k := 0) (d := 256)
      simpa [sumTo] using this
    have e2 : sumIf (fun j => decide ((0 : Int) < j)) c 256 = sumTo c 0 256 - sumTo c 0 1 := by
      have := sumIf_gt (c := c) (k := 0) (d := 255)
      simpa using this
    have h5 := hp 1 (by omega)
    rw [e1, e2]
    exact ⟨by omega, by omega, by omega, by omega⟩
end Go.Proofs.Ytcnckmeelcfeeaa
