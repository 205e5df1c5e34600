/-
  Structs of numbers, and slices of such, opened as arguments. No program in it.
-/
import Derived.Test.YtcnckmeelcfeeaaLamRow
import Derived.Test.YtcnckmeelcfeeaaLam
import Derived.Deep.Slices
namespace Go.Proofs.Ytcnckmeelcfeeaa
open Go.ChangeShapes Go.WideShapes Go.ChangeAt Go.RowKit Go.Joins Go.Deep

theorem ints_of : ∀ (cl : List Value), (∀ v ∈ cl, ∃ x : Int, v = .int .i64 x ∧ (Lit.int .i64 x).wf = true) → ∃ l : List Int, cl = l.map (Value.int .i64) ∧ ∀ x ∈ l, (Lit.int .i64 x).wf = true
  | [], _ => ⟨[], rfl, by simp⟩
  | v :: cl, h => by
    obtain ⟨x, rfl, hx⟩ := h v (by simp)
    obtain ⟨l, rfl, hl⟩ := ints_of cl (fun v hv => h v (by simp [hv]))
    exact ⟨x :: l, rfl, by intro y hy; rcases List.mem_cons.1 hy with rfl | hy; exact hx; exact hl y hy⟩

section
variable {H : Type} {enc : TypeId × Value → H} {P : Program} {w : World} {base : Nat} {spare : Nat → Bool} {held : Bool}
/-- The cells of a struct all of whose fields are whole numbers. -/
theorem ints_cells {t ti : TypeId} {fs : Array Field} {cl : List Value} {fuel : Nat} {x : DataW H × List MemPlace} (hs : P.underlying t = some (.struct fs)) (hone : oneCellFields P fs = true)
    (hti : P.underlying ti = some (.int .i64)) (hfs : (fs.toList.all fun f => f.type == ti) = true) (hlen0 : cl.length = fs.size) (hf : DataW.trod enc P w base spare held fuel t cl = some x) :
    ∃ l : List Int, cl = l.map (Value.int .i64) ∧ ∀ x ∈ l, (Lit.int .i64 x).wf = true := by
  obtain ⟨xs, n, _, hx, _, hlen, hg⟩ := DataW.trod_struct hs hf
  refine ints_of cl (fun v hv => ?_)
  obtain ⟨j, hj⟩ := List.getElem?_of_mem hv
  have hjl := (List.getElem?_eq_some_iff.1 hj).1
  have hjf : j < fs.size := by omega
  have hfj : fs[j]? = some fs[j] := Array.getElem?_eq_getElem hjf
  obtain ⟨o, k⟩ := hone_of hone j fs[j] hfj
  have h1 := hg j fs[j] hfj
  have hty : fs[j].type = ti := by
    have := List.all_eq_true.1 hfs fs[j] (by simp)
    simpa using this
  rw [o, k, hty] at h1
  have hd : (cl.drop j).take 1 = [v] := by
    rw [List.drop_eq_getElem_cons hjl, (List.getElem?_eq_some_iff.1 hj).2]; rfl
  rw [hd] at h1
  have hxj : xs[j]? = some (xs[j]'(by omega)) := List.getElem?_eq_getElem (by omega)
  rw [hxj] at h1
  obtain ⟨x, hx1, hx2, hx3⟩ := DataW.trod_int hti h1
  exact ⟨x, by simpa using hx1, hx3⟩
/-- A struct all of whose fields are whole numbers, by value. -/
theorem open_ints {r : Reach} {b0 : Nat} {t ti : TypeId} {fs : Array Field} {v : Value} {d : DataW H} {p : List MemPlace} (hs : P.underlying t = some (.struct fs)) (hone : oneCellFields P fs = true) (hC : P.cellsOf t = fs.size)
    (hti : P.underlying ti = some (.int .i64)) (hfs : (fs.toList.all fun f => f.type == ti) = true) (hv : Value.okWide P w r b0 t v) (h : DataW.Trod enc P w base spare held t v d p) :
    ∃ l : List Int, v = .agg (l.map (Value.int .i64)).toArray ∧ l.length = fs.size ∧ ∀ x ∈ l, (Lit.int .i64 x).wf = true := by
  obtain ⟨cs, rfl, hsz⟩ := okWide_struct hs hv
  obtain ⟨cl⟩ := cs
  have hlen0 : cl.length = fs.size := hsz.trans hC
  obtain ⟨fuel, hf⟩ := h
  obtain ⟨l, hl, hw⟩ := ints_cells (cl := cl) hs hone hti hfs hlen0 hf
  subst hl
  exact ⟨l, rfl, by simpa using hlen0, hw⟩
theorem choose_rows {n : Nat} {F : Nat → List Int → Prop} (h : ∀ i, i < n → ∃ l, F i l) : ∃ rows : List (List Int), rows.length = n ∧ ∀ i, i < n → F i (nth rows i) := by
  induction n with
  | zero => exact ⟨[], rfl, fun i hi => by omega⟩
  | succ n ih =>
    obtain ⟨rows, h1, h2⟩ := ih (fun i hi => h i (by omega))
    obtain ⟨l, hl⟩ := h n (by omega)
    refine ⟨rows ++ [l], by simp [h1], fun i hi => ?_⟩
    rcases Nat.lt_or_ge i n with h3 | h3
    · have e : nth (rows ++ [l]) i = nth rows i := by simp [nth, List.getD_eq_getElem?_getD, List.getElem?_append_left (show i < rows.length by omega)]
      rw [e]; exact h2 i h3
    · obtain rfl : i = n := by omega
      have e : nth (rows ++ [l]) i = l := by rw [← h1]; simp [nth, List.getD_eq_getElem?_getD]
      rw [e]; exact hl
/-- A slice of structs all of whose fields are whole numbers. -/
theorem open_rows {r : Reach} {b0 : Nat} {t e ti : TypeId} {fs : Array Field} {v : Value} {d : DataW H} {p : List MemPlace} (ht : P.underlying t = some (.slice e)) (he : P.underlying e = some (.struct fs)) (hone : oneCellFields P fs = true) (hC : P.cellsOf e = fs.size) (hpos : 0 < fs.size)
    (hti : P.underlying ti = some (.int .i64)) (hfs : (fs.toList.all fun f => f.type == ti) = true) (hv : Value.okWide P w r b0 t v) (h : DataW.Trod enc P w base spare held t v d p) :
    ∃ rows : List (List Int), (∀ r ∈ rows, r.length = fs.size) ∧ Rd (fun _ => True) w fs.size v (rows.map fun r => r.map (Value.int .i64)) := by
  obtain ⟨A, n, c, rfl⟩ := okWide_slice ht hv
  obtain ⟨fuel, hf⟩ := h
  rcases open_slice ht hf with ⟨h1, -⟩ | ⟨a, len, cap, m, n', D, Pl, hcs, hb, hl, hm, hmm, hx, hi⟩
  · simp only [Value.cells, List.cons.injEq, and_true] at h1
    injection h1 with h1 h2 h3
    subst h1 h2 h3
    exact ⟨[], by simp, Rd.nil _ _ _⟩
  · simp only [Value.cells, List.cons.injEq, and_true] at hcs
    injection hcs with h1 h2 h3
    subst h1 h2 h3
    have hnm : n ≤ m := by rw [hmm]; split <;> omega
    obtain ⟨rows, hr1, hr2⟩ := choose_rows (n := n) (F := fun i l => l.length = fs.size ∧ ∀ j, j < fs.size → w.cell? ((a.add (i * fs.size)).add j) = some (.int .i64 (nth l j))) (fun i hin => by
      obtain ⟨cs', hc, ht'⟩ := hi i (by omega)
      obtain ⟨_, hcl, hat⟩ := World.cells?_some hc
      obtain ⟨l, hl, _⟩ := ints_cells (cl := cs') he hone hti hfs (by rw [hcl, hC]) ht'
      subst hl
      refine ⟨l, by rw [← hC, ← hcl]; simp, fun j hj => ?_⟩
      have hlj : j < l.length := by rw [hC] at hcl; simp at hcl; omega
      rw [← hC, hat j (by omega), List.getElem?_map, get?_nth hlj]; rfl)
    refine ⟨rows, fun r hr => ?_, some a, c, by simp [hr1], ?_, fun h0 => ?_⟩
    · obtain ⟨i, hi'⟩ := List.getElem?_of_mem hr
      have hil := (List.getElem?_eq_some_iff.1 hi').1
      have := (hr2 i (by omega)).1
      rwa [nth_of_get? hi'] at this
    · rw [List.length_map, hr1]; have : c ≤ 9223372036854775807 := hm; omega
    · rw [List.length_map, hr1] at h0
      obtain ⟨b, off, spot⟩ := a
      have h00 := (hr2 0 h0).2 0 hpos
      have hspot : spot = none := by simpa [Addr.add] using World.cell?_spot h00
      subst hspot
      have hz : ∀ i j, ((⟨b, off, none⟩ : Addr).add i).add j = ⟨b, off + i + j, none⟩ := fun i j => by
        unfold Addr.add
        by_cases h1 : i = 0 <;> by_cases h2 : j = 0 <;> simp [h1, h2]
      rw [hz] at h00
      refine ⟨b, off, rfl, trivial, World.block_lt_of_cell? w _ h00, fun i hin => ?_⟩
      rw [List.length_map, hr1] at hin
      rw [nth_map _ (by omega)]
      obtain ⟨g1, g2⟩ := hr2 i hin
      refine ⟨by simp [g1], fun j hj => ?_⟩
      have := g2 j hj
      rw [hz] at this
      rw [this, nth_map _ (by omega)]
end
theorem list2 {l : List Int} (h : l.length = 2) : ∃ a b, l = [a, b] := by
  match l, h with
  | [a, b], _ => exact ⟨a, b, rfl⟩
theorem list5 {l : List Int} (h : l.length = 5) : ∃ a b c d e, l = [a, b, c, d, e] := by
  match l, h with
  | [a, b, c, d, e], _ => exact ⟨a, b, c, d, e, rfl⟩
theorem list6 {l : List Int} (h : l.length = 6) : ∃ a b c d e f, l = [a, b, c, d, e, f] := by
  match l, h with
  | [a, b, c, d, e, f], _ => exact ⟨a, b, c, d, e, f, rfl⟩
end Go.Proofs.Ytcnckmeelcfeeaa
