/-
  A struct of five or of two numbers by value, opened. No program in it.
-/
import Derived.Test.YtcnckmeelcfeeaaLamRow
namespace Go.Proofs.Ytcnckmeelcfeeaa
open Go.ChangeShapes Go.WideShapes Go.ChangeAt Go.RowKit Go.Joins Go.Deep

theorem ints_of : ∀ (cl : List Value), (∀ v ∈ cl, ∃ x : Int, v = .int .i64 x ∧ (Lit.int .i64 x).wf = true) → ∃ l : List Int, cl = l.map (Value.int .i64) ∧ ∀ x ∈ l, (Lit.int .i64 x).wf = true
  | [], _ => ⟨[], rfl, by simp⟩
  | v :: cl, h => by
    obtain ⟨x, rfl, hx⟩ := h v (by simp)
    obtain ⟨l, rfl, hl⟩ := ints_of cl (fun v hv => h v (by simp [hv]))
    exact ⟨x :: l, rfl, by intro y hy; rcases List.mem_cons.1 hy with rfl | hy; exact hx; exact hl y hy⟩

section
variable {H : Type} {enc : TypeId × Value → H} {P : Program} {w : World} {base : Nat} {spare : Nat → Bool} {held : Bool}
/-- A struct all of whose fields are whole numbers: its cells are. -/
theorem open_ints {r : Reach} {b0 : Nat} {t ti : TypeId} {fs : Array Field} {v : Value} {d : DataW H} {p : List MemPlace} (hs : P.underlying t = some (.struct fs)) (hone : oneCellFields P fs = true) (hC : P.cellsOf t = fs.size)
    (hti : P.underlying ti = some (.int .i64)) (hfs : (fs.toList.all fun f => f.type == ti) = true) (hv : Value.okWide P w r b0 t v) (h : DataW.Trod enc P w base spare held t v d p) :
    ∃ l : List Int, v = .agg (l.map (Value.int .i64)).toArray ∧ l.length = fs.size ∧ ∀ x ∈ l, (Lit.int .i64 x).wf = true := by
  obtain ⟨cs, rfl, hsz⟩ := okWide_struct hs hv
  obtain ⟨cl⟩ := cs
  have hlen0 : cl.length = fs.size := hsz.trans hC
  obtain ⟨fuel, hf⟩ := h
  obtain ⟨xs, n, _, hx, _, hlen, hg⟩ := DataW.trod_struct hs hf
  have hall : ∀ j, j < cl.length → ∃ x, cl[j]? = some (.int .i64 x) ∧ (Lit.int .i64 x).wf = true := by
    intro j hj
    have hjf : j < fs.size := by omega
    have hfj : fs[j]? = some fs[j] := Array.getElem?_eq_getElem hjf
    obtain ⟨o, k⟩ := hone_of hone j fs[j] hfj
    have h1 := hg j fs[j] hfj
    have hty : fs[j].type = ti := by
      have := List.all_eq_true.1 hfs fs[j] (by simp)
      simpa using this
    rw [o, k, hty] at h1
    have hd' : (((Value.agg cl.toArray).cells).toList.drop j).take 1 = [cl[j]] := by
      show (cl.drop j).take 1 = _
      rw [List.drop_eq_getElem_cons hj]; rfl
    rw [hd'] at h1
    have hxj : xs[j]? = some (xs[j]'(by omega)) := List.getElem?_eq_getElem (by omega)
    rw [hxj] at h1
    obtain ⟨x, hx1, hx2, hx3⟩ := DataW.trod_int hti h1
    exact ⟨x, by rw [List.getElem?_eq_getElem hj]; simpa using hx1, hx3⟩
  obtain ⟨l, hl, hw⟩ := ints_of cl (fun v hv => by
    obtain ⟨j, hj⟩ := List.getElem?_of_mem hv
    obtain ⟨x, hx, hw⟩ := hall j (List.getElem?_eq_some_iff.1 hj).1
    rw [hj] at hx
    exact ⟨x, Option.some.inj hx, hw⟩)
  subst hl
  exact ⟨l, rfl, by simpa using hlen0, hw⟩
end
theorem list2 {l : List Int} (h : l.length = 2) : ∃ a b, l = [a, b] := by
  match l, h with
  | [a, b], _ => exact ⟨a, b, rfl⟩
theorem list5 {l : List Int} (h : l.length = 5) : ∃ a b c d e, l = [a, b, c, d, e] := by
  match l, h with
  | [a, b, c, d, e], _ => exact ⟨a, b, c, d, e, rfl⟩
theorem list6 {l : List Int} (h : l.length = 6) : ∃ a b c d e f, l = [a, b, c, d, e, f] := by
  match l, h with
  | [a, b, c, d, e, f], _ => exact ⟨a, b, c, d, e, f, rfl⟩
end Go.Proofs.Ytcnckmeelcfeeaa
