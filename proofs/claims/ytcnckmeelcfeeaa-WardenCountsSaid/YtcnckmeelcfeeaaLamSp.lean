/-
  Spans as pairs of numbers: how they lie in rows; what a cut makes of them. No program in it.
-/
import Derived.Test.YtcnckmeelcfeeaaLamOwn
namespace Go.Proofs.Ytcnckmeelcfeeaa
open Go.RowKit

structure Sp where
  f : Int
  t : Int
  deriving DecidableEq, Inhabited

def srow (s : Sp) : List Value := [.int .i64 s.f, .int .i64 s.t]
def srows (l : List Sp) : List (List Value) := l.map srow
def sval (s : Sp) : Value := .agg #[.int .i64 s.f, .int .i64 s.t]
theorem srows_length (l : List Sp) : (srows l).length = l.length := by simp [srows]
theorem srows_append (l m : List Sp) : srows (l ++ m) = srows l ++ srows m := by simp [srows]
theorem srows_one (l : List Sp) : ∀ r ∈ srows l, r.length = 2 ∧ ∀ u ∈ r, u.oneCell' = true := by
  intro r hr
  simp only [srows, List.mem_map] at hr
  obtain ⟨x, _, rfl⟩ := hr
  refine ⟨rfl, fun u hu => ?_⟩
  simp only [srow, List.mem_cons, List.not_mem_nil, or_false] at hu
  rcases hu with rfl | rfl <;> rfl
theorem Rd.spans {D : Nat → Prop} {w : World} {A : Option Addr} {n c : Nat} {l : List Sp} (h : Rd D w 2 (.slice A n c) (srows l)) :
    n = l.length ∧ n ≤ 9223372036854775807 ∧ (0 < n → ∃ b off, A = some ⟨b, off, none⟩ ∧ D b ∧ b < w.heap.size ∧
      (∀ i, i < n → w.cell? ⟨b, off + i * 2, none⟩ = some (.int .i64 (nth l i).f)) ∧ (∀ i, i < n → w.cell? ⟨b, off + i * 2 + 1, none⟩ = some (.int .i64 (nth l i).t))) := by
  obtain ⟨A', c', e, hl, h⟩ := h
  injection e with e1 e2 e3
  rw [srows_length] at e2 hl h
  subst e1 e2 e3
  refine ⟨rfl, hl, fun h0 => ?_⟩
  obtain ⟨b, off, hA, hD, hb, hc⟩ := h h0
  have e1 : ∀ i, i < l.length → nth (srows l) i = srow (nth l i) := fun i hi => by simp [srows, nth_map _ hi]
  refine ⟨b, off, hA, hD, hb, fun i hi => ?_, fun i hi => ?_⟩
  · have := (hc i hi).2 0 (by omega)
    rw [Nat.add_zero] at this
    rw [this, e1 i hi]; rfl
  · have := (hc i hi).2 1 (by omega)
    rw [this, e1 i hi]; rfl

def emptySp (s : Sp) : Bool := decide (s.t ≤ s.f)
/-- Spans that rise, none empty, none touching the next. -/
def plain : List Sp → Bool
  | [] => true
  | [s] => decide (s.f < s.t)
  | s :: r :: l => decide (s.f < s.t) && decide (s.t < r.f) && plain (r :: l)
theorem plain_nth {l : List Sp} (h : plain l = true) : ∀ i, i < l.length → (nth l i).f < (nth l i).t := by
  induction l with
  | nil => intro i hi; simp at hi
  | cons s l ih =>
    intro i hi
    cases l with
    | nil =>
      obtain rfl : i = 0 := by simpa using hi
      simpa [plain, nth] using h
    | cons r l =>
      simp only [plain, Bool.and_eq_true, decide_eq_true_eq] at h
      cases i with
      | zero => simpa [nth] using h.1.1
      | succ i => simpa [nth] using ih h.2 i (by simpa using hi)
theorem plain_next {l : List Sp} (h : plain l = true) : ∀ i, i + 1 < l.length → (nth l i).t < (nth l (i + 1)).f := by
  induction l with
  | nil => intro i hi; simp at hi
  | cons s l ih =>
    intro i hi
    cases l with
    | nil => simp at hi
    | cons r l =>
      simp only [plain, Bool.and_eq_true, decide_eq_true_eq] at h
      cases i with
      | zero => simpa [nth] using h.1.2
      | succ i => simpa [nth] using ih h.2 i (by simpa using hi)
theorem plain_le {l : List Sp} (h : plain l = true) : ∀ d i, i + d < l.length → (nth l i).f ≤ (nth l (i + d)).f := by
  intro d
  induction d with
  | zero => intro i _; exact Int.le_refl _
  | succ d ih =>
    intro i hi
    have h1 := ih i (by omega)
    have h2 := plain_nth h (i + d) (by omega)
    have h3 := plain_next h (i + d) (by omega)
    rw [show i + (d + 1) = i + d + 1 by omega]; omega
def norm1 (x : Sp) : List Sp := if x.t ≤ x.f then [] else [x]
/-- What is left of a span without another one. -/
def cut1 (x s : Sp) : List Sp :=
  if s.t ≤ x.f ∨ x.t ≤ s.f then [x] else (if x.f < s.f then [⟨x.f, s.f⟩] else []) ++ (if s.t < x.t then [⟨s.t, x.t⟩] else [])
theorem cut1_right {x s : Sp} (hx : x.f < x.t) (h : x.t ≤ s.f) : [] ++ norm1 ⟨x.f, x.t⟩ = cut1 x s := by
  have h1 : ¬ x.t ≤ x.f := by omega
  simp [norm1, cut1, h, h1]
theorem cut1_left {x s : Sp} (hx : x.f < x.t) (h : s.t ≤ x.f) : [] ++ norm1 ⟨x.f, x.t⟩ = cut1 x s := by
  have h1 : ¬ x.t ≤ x.f := by omega
  simp [norm1, cut1, h, h1]
theorem cut1_mid {x s : Sp} (h1 : x.f < s.t) (h2 : s.f < x.t) (h3 : x.f < s.f) : [⟨x.f, s.f⟩] ++ norm1 ⟨s.t, x.t⟩ = cut1 x s := by
  have e : ¬ (s.t ≤ x.f ∨ x.t ≤ s.f) := by omega
  unfold norm1 cut1
  rw [if_neg e, if_pos h3]
  by_cases h : x.t ≤ s.t
  · rw [if_pos h, if_neg (by omega)]
  · rw [if_neg h, if_pos (by omega)]
theorem cut1_mid' {x s : Sp} (h1 : x.f < s.t) (h2 : s.f < x.t) (h3 : ¬ x.f < s.f) : [] ++ norm1 ⟨s.t, x.t⟩ = cut1 x s := by
  have e : ¬ (s.t ≤ x.f ∨ x.t ≤ s.f) := by omega
  unfold norm1 cut1
  rw [if_neg e, if_neg h3]
  by_cases h : x.t ≤ s.t
  · rw [if_pos h, if_neg (by omega)]
  · rw [if_neg h, if_pos (by omega)]
theorem cut1_length (x s : Sp) : (cut1 x s).length ≤ 2 := by
  unfold cut1; split
  · simp
  · rw [List.length_append]; split <;> split <;> simp
/-- What is left of a row without one span. -/
def cutAll (l : List Sp) (s : Sp) : List Sp := l.flatMap (cut1 · s)
theorem cutAll_length (l : List Sp) (s : Sp) : (cutAll l s).length ≤ 2 * l.length := by
  induction l with
  | nil => simp [cutAll]
  | cons x l ih =>
    have : cutAll (x :: l) s = cut1 x s ++ cutAll l s := by simp [cutAll]
    rw [this, List.length_append, List.length_cons]
    have := cut1_length x s
    omega
theorem cutAll_snoc {l : List Sp} {s : Sp} {k : Nat} (h : k < l.length) : cutAll (l.take (k + 1)) s = cutAll (l.take k) s ++ cut1 (nth l k) s := by
  rw [take_nth h, cutAll, List.flatMap_append]; simp [cutAll]
theorem one2 (a b : Int) : [Value.int .i64 a, .int .i64 b].length = 2 ∧ ∀ u ∈ [Value.int .i64 a, .int .i64 b], u.oneCell' = true := by
  refine ⟨rfl, fun u hu => ?_⟩
  simp only [List.mem_cons, List.not_mem_nil, or_false] at hu
  rcases hu with rfl | rfl <;> rfl
end Go.Proofs.Ytcnckmeelcfeeaa
