/-
  A Map's pieces, and what Drop and Put make of them. No program in it.
-/
import Derived.Test.YtcnckmeelcfeeaaLamSp
namespace Go.Proofs.Ytcnckmeelcfeeaa
open Go.RowKit

def prows (ps : List (Sp × Int)) : List (List Value) := srows (ps.map Prod.fst)
def vrows (ps : List (Sp × Int)) : List (List Value) := irows (ps.map Prod.snd)
theorem prows_append (a b : List (Sp × Int)) : prows (a ++ b) = prows a ++ prows b := by simp [prows, srows_append]
theorem vrows_append (a b : List (Sp × Int)) : vrows (a ++ b) = vrows a ++ vrows b := by simp [vrows, irows_append]
theorem prows_length (a : List (Sp × Int)) : (prows a).length = a.length := by simp [prows, srows_length]
theorem vrows_length (a : List (Sp × Int)) : (vrows a).length = a.length := by simp [vrows, irows_length]
/-- The pieces without a span. -/
def cutP (p : Sp × Int) (s : Sp) : List (Sp × Int) := (cut1 p.1 s).map fun y => (y, p.2)
def dropP (ps : List (Sp × Int)) (s : Sp) : List (Sp × Int) := ps.flatMap fun p => cutP p s
theorem dropP_snoc {ps : List (Sp × Int)} {s : Sp} {k : Nat} (h : k < ps.length) : dropP (ps.take (k + 1)) s = dropP (ps.take k) s ++ cutP (nth ps k) s := by
  rw [take_nth h, dropP, List.flatMap_append]; simp [dropP]
theorem dropP_length (ps : List (Sp × Int)) (s : Sp) : (dropP ps s).length ≤ 2 * ps.length := by
  induction ps with
  | nil => simp [dropP]
  | cons x l ih =>
    have : dropP (x :: l) s = cutP x s ++ dropP l s := by simp [dropP]
    rw [this, List.length_append, List.length_cons]
    have h1 : (cutP x s).length ≤ 2 := by unfold cutP; rw [List.length_map]; exact cut1_length _ _
    omega
theorem cutP_take {p : Sp × Int} {s : Sp} {j : Nat} (h : j < (cut1 p.1 s).length) : (cutP p s).take (j + 1) = (cutP p s).take j ++ [(nth (cut1 p.1 s) j, p.2)] := by
  have h2 : j < (cutP p s).length := by unfold cutP; simpa using h
  rw [take_nth h2]; congr 2
  unfold cutP; exact nth_map (fun y => (y, p.2)) h
theorem Rd.spansP {D : Nat → Prop} {w : World} {A : Option Addr} {n c : Nat} {ps : List (Sp × Int)} (h : Rd D w 2 (.slice A n c) (prows ps)) :
    n = ps.length ∧ (0 < n → ∃ b off, A = some ⟨b, off, none⟩ ∧ D b ∧ b < w.heap.size ∧
      (∀ i, i < n → w.cell? ⟨b, off + i * 2, none⟩ = some (.int .i64 (nth ps i).1.f)) ∧ (∀ i, i < n → w.cell? ⟨b, off + i * 2 + 1, none⟩ = some (.int .i64 (nth ps i).1.t))) := by
  obtain ⟨h1, _, h2⟩ := h.spans
  have h1' : n = ps.length := by rw [h1]; simp
  refine ⟨h1', fun h0 => ?_⟩
  obtain ⟨b, off, hA, hD, hb, hf, ht⟩ := h2 h0
  refine ⟨b, off, hA, hD, hb, fun i hi => ?_, fun i hi => ?_⟩
  · rw [hf i hi, nth_map Prod.fst (by omega)]
  · rw [ht i hi, nth_map Prod.fst (by omega)]
theorem Rd.valsP {D : Nat → Prop} {w : World} {A : Option Addr} {n c : Nat} {ps : List (Sp × Int)} (h : Rd D w 1 (.slice A n c) (vrows ps)) :
    n = ps.length ∧ (0 < n → ∃ b off, A = some ⟨b, off, none⟩ ∧ D b ∧ b < w.heap.size ∧ (∀ i, i < n → w.cell? ⟨b, off + i, none⟩ = some (.int .i64 (nth ps i).2))) := by
  obtain ⟨A', c', e, _, h2⟩ := h.ints
  injection e with e1 e2 e3
  subst e1 e3
  have h1' : n = ps.length := by rw [e2]; simp
  refine ⟨h1', fun h0 => ?_⟩
  obtain ⟨b, off, hA, hD, hb, hf⟩ := h2 (by rw [← e2]; exact h0)
  refine ⟨b, off, hA, hD, hb, fun i hi => ?_⟩
  rw [hf i (by rw [← e2]; exact hi), nth_map Prod.snd (by omega)]
theorem one1 (a : Int) : [Value.int .i64 a].length = 1 ∧ ∀ u ∈ [Value.int .i64 a], u.oneCell' = true := by
  refine ⟨rfl, fun u hu => ?_⟩
  simp only [List.mem_cons, List.not_mem_nil, or_false] at hu
  subst hu; rfl
end Go.Proofs.Ytcnckmeelcfeeaa
