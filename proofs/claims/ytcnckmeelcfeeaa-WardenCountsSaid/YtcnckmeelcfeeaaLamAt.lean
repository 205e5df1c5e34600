/-
  The data of a map of shards, and how they lie in memory. No program in it.
-/
import Derived.Test.YtcnckmeelcfeeaaLamMap
import Derived.Test.YtcnckmeelcfeeaaLamKV
namespace Go.Proofs.Ytcnckmeelcfeeaa
open Go.RowKit

structure Org where
  id : Int
  f : Int
  t : Int
  ms : List Int
deriving Inhabited, DecidableEq
structure Shd where
  id : Int
  f : Int
  t : Int
  ms : List Int
  past : List Org
deriving Inhabited, DecidableEq

/-- What is turned is of another type: the row is as it was. -/
theorem OwnR.mods_ne {S : Nat → Prop} {w w' : World} {base k e : Nat} {v : Value} {rs : List (List Value)} (h : OwnR w base e k v rs) (hm : Mods S w w')
    (hS : ∀ g, base ≤ g → g < w.heap.size → S g → ∃ cs T fr, w.heap[g]? = some (.cells cs T fr) ∧ e ≠ T) : OwnR w' base e k v rs := by
  refine h.mods hm (fun g hg hs => ?_)
  obtain ⟨cs, T, fr, h1, h2⟩ := hS g (h.lt g hg).1 (h.lt g hg).2 hs
  rcases h.1.2 with ⟨rfl, -⟩ | ⟨g', cap, cur, rfl, -, hh, -⟩
  · cases hg
  · have e1 : g' = g := by simpa [Value.ownBlock] using hg
    subst e1
    rw [hh] at h1
    injection h1 with h1
    injection h1 with _ h3 _
    exact h2 h3

/-- What is turned lies below, or is another row of another type. -/
theorem OwnR.kept2 {S : Nat → Prop} {w w' : World} {base k e b' k' e' : Nat} {v v' : Value} {rs rs' : List (List Value)} (h : OwnR w base e k v rs) (hm : Mods S w w') (h' : OwnR w b' e' k' v' rs') (hne : e ≠ e')
    (hS : ∀ g, S g → g < base ∨ some g = v'.ownBlock) : OwnR w' base e k v rs := by
  refine h.mods hm (fun g hg hs => ?_)
  rcases hS g hs with h1 | h1
  · have := (h.lt g hg).1; omega
  · rcases h.type_ne h' hne with h2 | h2
    · rw [h2] at hg; cases hg
    · exact h2 (hg.trans h1)
theorem grown_block {W w' : World} {row : Option Nat} {b : Nat} {o : Obj} (hg : W.grownBy w' row) (h : W.heap[b]? = some o) (hne : ∀ g, row = some g → g ≠ b) : w'.heap[b]? = some o :=
  (hg.block b (lt_of_block h) (fun e => hne b e.symm rfl)).trans h
theorem blk_ne {w : World} {b : Nat} {o : Obj} (h : w.heap[b]? = some o) {p : Addr} (hne : p.block ≠ b) (v : Value) : (w.setCell p v).heap[b]? = some o := by
  have hm := Mods.setCell (S := fun g => g = p.block) w rfl v
  exact (hm.block b (lt_of_block h) (fun e => hne e.symm)).trans h

/-- A whole row is stored. -/
theorem row2_set {w : World} {b : Nat} {T : TypeId} {u0 u1 : Value} (h : w.heap[b]? = some (.cells [u0, u1].toArray T (0, 0))) (v0 v1 : Value) :
    ((w.setCell ⟨b, 0, none⟩ v0).setCell ⟨b, 1, none⟩ v1).heap[b]? = some (.cells [v0, v1].toArray T (0, 0)) ∧ Mods (fun g => g = b) w ((w.setCell ⟨b, 0, none⟩ v0).setCell ⟨b, 1, none⟩ v1) :=
  ⟨(heap_setCell_same _ _ 1 _ _ _ (heap_setCell_same _ _ 0 _ _ _ h)), ((Mods.setCell (S := fun g => g = b) w (p := ⟨b, 0, none⟩) rfl v0).trans (Mods.setCell (S := fun g => g = b) _ (p := ⟨b, 1, none⟩) rfl v1) (fun _ _ h => h))⟩
theorem row5_set {w : World} {b : Nat} {T : TypeId} {u0 u1 u2 u3 u4 : Value} (h : w.heap[b]? = some (.cells [u0, u1, u2, u3, u4].toArray T (0, 0))) (v0 v1 v2 v3 v4 : Value) :
    (((((w.setCell ⟨b, 0, none⟩ v0).setCell ⟨b, 1, none⟩ v1).setCell ⟨b, 2, none⟩ v2).setCell ⟨b, 3, none⟩ v3).setCell ⟨b, 4, none⟩ v4).heap[b]? = some (.cells [v0, v1, v2, v3, v4].toArray T (0, 0)) ∧ Mods (fun g => g = b) w (((((w.setCell ⟨b, 0, none⟩ v0).setCell ⟨b, 1, none⟩ v1).setCell ⟨b, 2, none⟩ v2).setCell ⟨b, 3, none⟩ v3).setCell ⟨b, 4, none⟩ v4) :=
  ⟨(heap_setCell_same _ _ 4 _ _ _ (heap_setCell_same _ _ 3 _ _ _ (heap_setCell_same _ _ 2 _ _ _ (heap_setCell_same _ _ 1 _ _ _ (heap_setCell_same _ _ 0 _ _ _ h))))), (((((Mods.setCell (S := fun g => g = b) w (p := ⟨b, 0, none⟩) rfl v0).trans (Mods.setCell (S := fun g => g = b) _ (p := ⟨b, 1, none⟩) rfl v1) (fun _ _ h => h)).trans (Mods.setCell (S := fun g => g = b) _ (p := ⟨b, 2, none⟩) rfl v2) (fun _ _ h => h)).trans (Mods.setCell (S := fun g => g = b) _ (p := ⟨b, 3, none⟩) rfl v3) (fun _ _ h => h)).trans (Mods.setCell (S := fun g => g = b) _ (p := ⟨b, 4, none⟩) rfl v4) (fun _ _ h => h))⟩
theorem row6_set {w : World} {b : Nat} {T : TypeId} {u0 u1 u2 u3 u4 u5 : Value} (h : w.heap[b]? = some (.cells [u0, u1, u2, u3, u4, u5].toArray T (0, 0))) (v0 v1 v2 v3 v4 v5 : Value) :
    ((((((w.setCell ⟨b, 0, none⟩ v0).setCell ⟨b, 1, none⟩ v1).setCell ⟨b, 2, none⟩ v2).setCell ⟨b, 3, none⟩ v3).setCell ⟨b, 4, none⟩ v4).setCell ⟨b, 5, none⟩ v5).heap[b]? = some (.cells [v0, v1, v2, v3, v4, v5].toArray T (0, 0)) ∧ Mods (fun g => g = b) w ((((((w.setCell ⟨b, 0, none⟩ v0).setCell ⟨b, 1, none⟩ v1).setCell ⟨b, 2, none⟩ v2).setCell ⟨b, 3, none⟩ v3).setCell ⟨b, 4, none⟩ v4).setCell ⟨b, 5, none⟩ v5) :=
  ⟨(heap_setCell_same _ _ 5 _ _ _ (heap_setCell_same _ _ 4 _ _ _ (heap_setCell_same _ _ 3 _ _ _ (heap_setCell_same _ _ 2 _ _ _ (heap_setCell_same _ _ 1 _ _ _ (heap_setCell_same _ _ 0 _ _ _ h)))))), ((((((Mods.setCell (S := fun g => g = b) w (p := ⟨b, 0, none⟩) rfl v0).trans (Mods.setCell (S := fun g => g = b) _ (p := ⟨b, 1, none⟩) rfl v1) (fun _ _ h => h)).trans (Mods.setCell (S := fun g => g = b) _ (p := ⟨b, 2, none⟩) rfl v2) (fun _ _ h => h)).trans (Mods.setCell (S := fun g => g = b) _ (p := ⟨b, 3, none⟩) rfl v3) (fun _ _ h => h)).trans (Mods.setCell (S := fun g => g = b) _ (p := ⟨b, 4, none⟩) rfl v4) (fun _ _ h => h)).trans (Mods.setCell (S := fun g => g = b) _ (p := ⟨b, 5, none⟩) rfl v5) (fun _ _ h => h))⟩

/-- A row of an origin, its members read in D. -/
def OrgRd (D : Nat → Prop) (w : World) (o : Org) (r : List Value) : Prop := ∃ mv, r = [.int .i64 o.id, .int .i64 o.f, .int .i64 o.t, mv] ∧ Ints D w mv o.ms
def OrgRds (D : Nat → Prop) (w : World) (os : List Org) (rs : List (List Value)) : Prop := rs.length = os.length ∧ ∀ i, i < os.length → OrgRd D w (nth os i) (nth rs i)
/-- The value of a shard, all that it leads to read in D. -/
def ShRd (D : Nat → Prop) (w : World) (s : Shd) (mv pv : Value) : Prop := Ints D w mv s.ms ∧ ∃ rs, Rd D w 4 pv rs ∧ OrgRds D w s.past rs
def shVal (s : Shd) (mv pv : Value) : Value := .agg #[.int .i64 s.id, .int .i64 s.f, .int .i64 s.t, mv, pv]
def shCells (s : Shd) (mv pv : Value) : List Value := [.int .i64 s.id, .int .i64 s.f, .int .i64 s.t, mv, pv]

theorem OrgRd.frame {D : Nat → Prop} {w w' : World} {o : Org} {r : List Value} (h : OrgRd D w o r) (hs : w.heap.size ≤ w'.heap.size) (hf : ∀ b, D b → b < w.heap.size → w'.heap[b]? = w.heap[b]?) : OrgRd D w' o r := by
  obtain ⟨mv, e, h⟩ := h
  exact ⟨mv, e, h.frame hs hf⟩
theorem OrgRds.frame {D : Nat → Prop} {w w' : World} {o : List Org} {r : List (List Value)} (h : OrgRds D w o r) (hs : w.heap.size ≤ w'.heap.size) (hf : ∀ b, D b → b < w.heap.size → w'.heap[b]? = w.heap[b]?) : OrgRds D w' o r :=
  ⟨h.1, fun i hi => (h.2 i hi).frame hs hf⟩
theorem ShRd.frame {D : Nat → Prop} {w w' : World} {s : Shd} {mv pv : Value} (h : ShRd D w s mv pv) (hs : w.heap.size ≤ w'.heap.size) (hf : ∀ b, D b → b < w.heap.size → w'.heap[b]? = w.heap[b]?) : ShRd D w' s mv pv := by
  obtain ⟨h1, rs, h2, h3⟩ := h
  exact ⟨h1.frame hs hf, rs, h2.frame hs hf, h3.frame hs hf⟩
theorem OrgRd.mono {D D' : Nat → Prop} {w : World} {o : Org} {r : List Value} (h : OrgRd D w o r) (hD : ∀ b, D b → b < w.heap.size → D' b) : OrgRd D' w o r := by
  obtain ⟨mv, e, h⟩ := h
  exact ⟨mv, e, h.mono hD⟩
theorem OrgRds.mono {D D' : Nat → Prop} {w : World} {o : List Org} {r : List (List Value)} (h : OrgRds D w o r) (hD : ∀ b, D b → b < w.heap.size → D' b) : OrgRds D' w o r :=
  ⟨h.1, fun i hi => (h.2 i hi).mono hD⟩
theorem ShRd.mono {D D' : Nat → Prop} {w : World} {s : Shd} {mv pv : Value} (h : ShRd D w s mv pv) (hD : ∀ b, D b → b < w.heap.size → D' b) : ShRd D' w s mv pv := by
  obtain ⟨h1, rs, h2, h3⟩ := h
  exact ⟨h1.mono hD, rs, h2.mono hD, h3.mono hD⟩
theorem OrgRds.below {D : Nat → Prop} {w w' : World} {o : List Org} {r : List (List Value)} (h : OrgRds D w o r) (hb : Below w.heap.size w w') : OrgRds D w' o r := h.frame hb.size fun b _ hl => hb.block b hl
theorem ShRd.below {D : Nat → Prop} {w w' : World} {s : Shd} {mv pv : Value} (h : ShRd D w s mv pv) (hb : Below w.heap.size w w') : ShRd D w' s mv pv := h.frame hb.size fun b _ hl => hb.block b hl
theorem OrgRds.nil (D : Nat → Prop) (w : World) : OrgRds D w [] [] := ⟨rfl, fun i hi => absurd hi (by simp)⟩
theorem nth_snoc_lt {α : Type} [Inhabited α] {l : List α} {x : α} {i : Nat} (h : i < l.length) : nth (l ++ [x]) i = nth l i := by simp [nth, List.getD_eq_getElem?_getD, List.getElem?_append_left h]
theorem nth_snoc {α : Type} [Inhabited α] (l : List α) (x : α) : nth (l ++ [x]) l.length = x := by simp [nth, List.getD_eq_getElem?_getD]
theorem OrgRds.snoc {D : Nat → Prop} {w : World} {os : List Org} {rs : List (List Value)} {o : Org} {r : List Value} (h : OrgRds D w os rs) (hr : OrgRd D w o r) : OrgRds D w (os ++ [o]) (rs ++ [r]) := by
  refine ⟨by simp [h.1], fun i hi => ?_⟩
  rw [List.length_append, List.length_singleton] at hi
  rcases Nat.lt_or_ge i os.length with h1 | h1
  · rw [nth_snoc_lt h1, nth_snoc_lt (by rw [h.1]; exact h1)]; exact h.2 i h1
  · obtain rfl : i = os.length := by omega
    rw [nth_snoc, ← h.1, nth_snoc]; exact hr

/-- The same with all that it leads to in blocks of the call's own: from base on; ints alone and origins alone. -/
def OrgOw (w : World) (base : Nat) (ti : TypeId) (o : Org) (r : List Value) : Prop := ∃ mv, r = [.int .i64 o.id, .int .i64 o.f, .int .i64 o.t, mv] ∧ OwnR w base ti 1 mv (irows o.ms)
def OrgOws (w : World) (base : Nat) (ti : TypeId) (os : List Org) (rs : List (List Value)) : Prop := rs.length = os.length ∧ ∀ i, i < os.length → OrgOw w base ti (nth os i) (nth rs i)
def ShOw (w : World) (base : Nat) (ti to : TypeId) (s : Shd) (mv pv : Value) : Prop := OwnR w base ti 1 mv (irows s.ms) ∧ ∃ rs, OwnR w base to 4 pv rs ∧ OrgOws w base ti s.past rs
def ShRow (w : World) (base : Nat) (ti to : TypeId) (s : Shd) (r : List Value) : Prop := ∃ mv pv, r = shCells s mv pv ∧ ShOw w base ti to s mv pv
def ShRows (w : World) (base : Nat) (ti to : TypeId) (ss : List Shd) (rs : List (List Value)) : Prop := rs.length = ss.length ∧ ∀ i, i < ss.length → ShRow w base ti to (nth ss i) (nth rs i)
theorem OrgOws.nil (w : World) (base : Nat) (ti : TypeId) : OrgOws w base ti [] [] := ⟨rfl, fun i hi => absurd hi (by simp)⟩
theorem ShRows.nil (w : World) (base : Nat) (ti to : TypeId) : ShRows w base ti to [] [] := ⟨rfl, fun i hi => absurd hi (by simp)⟩
theorem OrgOws.snoc {w : World} {base : Nat} {ti : TypeId} {os : List Org} {rs : List (List Value)} {o : Org} {r : List Value} (h : OrgOws w base ti os rs) (hr : OrgOw w base ti o r) : OrgOws w base ti (os ++ [o]) (rs ++ [r]) := by
  refine ⟨by simp [h.1], fun i hi => ?_⟩
  rw [List.length_append, List.length_singleton] at hi
  rcases Nat.lt_or_ge i os.length with h1 | h1
  · rw [nth_snoc_lt h1, nth_snoc_lt (by rw [h.1]; exact h1)]; exact h.2 i h1
  · obtain rfl : i = os.length := by omega
    rw [nth_snoc, ← h.1, nth_snoc]; exact hr
theorem ShRows.snoc {w : World} {base : Nat} {ti to : TypeId} {ss : List Shd} {rs : List (List Value)} {s : Shd} {r : List Value} (h : ShRows w base ti to ss rs) (hr : ShRow w base ti to s r) : ShRows w base ti to (ss ++ [s]) (rs ++ [r]) := by
  refine ⟨by simp [h.1], fun i hi => ?_⟩
  rw [List.length_append, List.length_singleton] at hi
  rcases Nat.lt_or_ge i ss.length with h1 | h1
  · rw [nth_snoc_lt h1, nth_snoc_lt (by rw [h.1]; exact h1)]; exact h.2 i h1
  · obtain rfl : i = ss.length := by omega
    rw [nth_snoc, ← h.1, nth_snoc]; exact hr
/-- Carried from a world to another, by what carries the owned rows. -/
theorem OrgOws.of {w w' : World} {base base' : Nat} {ti : TypeId} {os : List Org} {rs : List (List Value)} (h : OrgOws w base ti os rs) (hk : ∀ mv l, OwnR w base ti 1 mv l → OwnR w' base' ti 1 mv l) : OrgOws w' base' ti os rs :=
  ⟨h.1, fun i hi => by obtain ⟨mv, e, ho⟩ := h.2 i hi; exact ⟨mv, e, hk _ _ ho⟩⟩
theorem ShOw.of {w w' : World} {base base' : Nat} {ti to : TypeId} {s : Shd} {mv pv : Value} (h : ShOw w base ti to s mv pv) (hi : ∀ mv l, OwnR w base ti 1 mv l → OwnR w' base' ti 1 mv l) (ho : ∀ pv l, OwnR w base to 4 pv l → OwnR w' base' to 4 pv l) : ShOw w' base' ti to s mv pv := by
  obtain ⟨h1, rs, h2, h3⟩ := h
  exact ⟨hi _ _ h1, rs, ho _ _ h2, h3.of hi⟩
theorem ShRow.of {w w' : World} {base base' : Nat} {ti to : TypeId} {s : Shd} {r : List Value} (h : ShRow w base ti to s r) (hi : ∀ mv l, OwnR w base ti 1 mv l → OwnR w' base' ti 1 mv l) (ho : ∀ pv l, OwnR w base to 4 pv l → OwnR w' base' to 4 pv l) : ShRow w' base' ti to s r := by
  obtain ⟨mv, pv, e, h⟩ := h
  exact ⟨mv, pv, e, h.of hi ho⟩
theorem ShRows.of {w w' : World} {base base' : Nat} {ti to : TypeId} {ss : List Shd} {rs : List (List Value)} (h : ShRows w base ti to ss rs) (hi : ∀ mv l, OwnR w base ti 1 mv l → OwnR w' base' ti 1 mv l) (ho : ∀ pv l, OwnR w base to 4 pv l → OwnR w' base' to 4 pv l) : ShRows w' base' ti to ss rs :=
  ⟨h.1, fun i hx => (h.2 i hx).of hi ho⟩
theorem OrgOw.rd {w : World} {base : Nat} {ti : TypeId} {o : Org} {r : List Value} (h : OrgOw w base ti o r) : OrgRd (fun b => base ≤ b) w o r := by
  obtain ⟨mv, e, ho⟩ := h
  exact ⟨mv, e, ho.rd.ints.mono (fun b hb _ => hb.2)⟩
theorem OrgOws.rd {w : World} {base : Nat} {ti : TypeId} {o : List Org} {r : List (List Value)} (h : OrgOws w base ti o r) : OrgRds (fun b => base ≤ b) w o r := ⟨h.1, fun i hi => (h.2 i hi).rd⟩
theorem ShOw.rd {w : World} {base : Nat} {ti to : TypeId} {s : Shd} {mv pv : Value} (h : ShOw w base ti to s mv pv) : ShRd (fun b => base ≤ b) w s mv pv := by
  obtain ⟨h1, rs, h2, h3⟩ := h
  exact ⟨h1.rd.ints.mono (fun b hb _ => hb.2), rs, h2.rd.mono (fun b hb _ => hb.2), h3.rd⟩
end Go.Proofs.Ytcnckmeelcfeeaa
