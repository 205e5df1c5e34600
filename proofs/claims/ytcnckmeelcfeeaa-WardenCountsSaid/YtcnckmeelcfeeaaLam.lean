/-
  How the lists, rows and maps of the program lie in memory, and what leaves them as they are. No program in it.
-/
import Derived.WalkKit
import Derived.WalkSpells
import Derived.WalkLawsBesides
import Derived.Deep.QuietTactic
import Derived.BigQuiet
import Derived.Lib.Hide
import Derived.Maps.AppendAt
import Derived.Deep.RegionHeld3
import Derived.StillTailTactics
import Derived.Deep.RegionWith
import Derived.Deep.DeepMust
import Derived.Laws.Rows
namespace Go.Proofs.Ytcnckmeelcfeeaa
open Go.RowKit

/-- The i-th of a list (a plain word, so that the walk leaves it). -/
def nth {α : Type} [Inhabited α] (l : List α) (i : Nat) : α := l.getD i default
theorem nth_get {α : Type} [Inhabited α] {l : List α} {i : Nat} (h : i < l.length) : nth l i = l[i] := by simp [nth, List.getD_eq_getElem?_getD, List.getElem?_eq_getElem h]
theorem get?_nth {α : Type} [Inhabited α] {l : List α} {i : Nat} (h : i < l.length) : l[i]? = some (nth l i) := by rw [nth_get h, List.getElem?_eq_getElem h]
theorem nth_of_get? {α : Type} [Inhabited α] {l : List α} {i : Nat} {x : α} (h : l[i]? = some x) : nth l i = x := by simp [nth, List.getD_eq_getElem?_getD, h]
theorem take_nth {α : Type} [Inhabited α] {l : List α} {k : Nat} (h : k < l.length) : l.take (k + 1) = l.take k ++ [nth l k] := by
  rw [List.take_add_one, get?_nth h]; rfl
theorem nth_map {α β : Type} [Inhabited α] [Inhabited β] (f : α → β) {l : List α} {i : Nat} (h : i < l.length) : nth (l.map f) i = f (nth l i) := by
  rw [nth_get (by simpa using h), nth_get h]; simp

/-- Equal endings by equal numbers, bools. -/
theorem ret_int {k : IntKind} {a b : Int} (h : a = b) : Ending.returned (.int k a) = .returned (.int k b) := by rw [h]
theorem ret_bool {a b : Bool} (h : a = b) : Ending.returned (.bool a) = .returned (.bool b) := by rw [h]

theorem hid_step {P : Nat → Prop} {k : Nat} (h : Hid (∀ j, j < k → P j)) (hk : P k) : Hid (∀ j, j < k + 1 → P j) := fun j hj => by
  rcases Nat.lt_or_ge j k with h1 | h1
  · exact h j h1
  · obtain rfl : j = k := by omega
    exact hk

/-- All old cells and marks are as they were: the walk's two rules. -/
theorem bcell {W w1 : World} (hb : Below W.heap.size W w1) : (∀ b o, b < W.heap.size → w1.cell? ⟨b, o, none⟩ = W.cell? ⟨b, o, none⟩) ∧ (∀ b o, b < W.heap.size → w1.frozen? ⟨b, o, none⟩ = W.frozen? ⟨b, o, none⟩) :=
  ⟨fun b o h => hb.cell (p := ⟨b, o, none⟩) h, fun b o h => hb.frozen (p := ⟨b, o, none⟩) h⟩

theorem bthen {B : Nat} {a b c : World} (h : Below B a b) (k : Below b.heap.size b c) (hB : B ≤ b.heap.size) : Below B a c := h.trans (k.mono hB)

/-- What is of S may have changed; all else that there was is as it was. -/
structure Mods (S : Nat → Prop) (w w' : World) : Prop where
  os : w'.os = w.os
  tape : w'.tape = w.tape
  output : w'.output = w.output
  size : w.heap.size ≤ w'.heap.size
  block : ∀ k, k < w.heap.size → ¬ S k → w'.heap[k]? = w.heap[k]?

theorem Mods.refl (S : Nat → Prop) (w : World) : Mods S w w := ⟨rfl, rfl, rfl, Nat.le_refl _, fun _ _ _ => rfl⟩
theorem Mods.trans {S S' : Nat → Prop} {a b c : World} (h : Mods S a b) (k : Mods S' b c) (hs : ∀ x, x < a.heap.size → S' x → S x) : Mods S a c :=
  ⟨k.os.trans h.os, k.tape.trans h.tape, k.output.trans h.output, Nat.le_trans h.size k.size, fun x hx hn =>
    (k.block x (Nat.lt_of_lt_of_le hx h.size) (fun hk => hn (hs x hx hk))).trans (h.block x hx hn)⟩
theorem Mods.mono {S S' : Nat → Prop} {a b : World} (h : Mods S a b) (hs : ∀ x, x < a.heap.size → S x → S' x) : Mods S' a b :=
  ⟨h.os, h.tape, h.output, h.size, fun x hx hn => h.block x hx (fun hk => hn (hs x hx hk))⟩
theorem Mods.of_below {S : Nat → Prop} {w w' : World} (h : Below w.heap.size w w') : Mods S w w' := ⟨h.os, h.tape, h.output, h.size, fun k hk _ => h.block k hk⟩
theorem Mods.of_grown {w w' : World} {row : Option Nat} (h : w.grownBy w' row) : Mods (fun k => some k = row) w w' := ⟨h.os, h.tape, h.output, h.size, fun k hk hn => h.block k hk hn⟩
theorem Mods.below {S : Nat → Prop} {w w' : World} (h : Mods S w w') {B : Nat} (hB : B ≤ w.heap.size) (hs : ∀ x, x < w.heap.size → S x → B ≤ x) : Below B w w' :=
  ⟨h.os, h.tape, h.output, h.size, fun k hk => h.block k (Nat.lt_of_lt_of_le hk hB) (fun hS => absurd (hs k (Nat.lt_of_lt_of_le hk hB) hS) (by omega))⟩
theorem Mods.setCell {S : Nat → Prop} (w : World) {p : Addr} (hp : S p.block) (u : Value) : Mods S w (w.setCell p u) :=
  ⟨rfl, rfl, rfl, by simp, fun k _ hn => Below.heap_setCell w p u k (fun e => hn (e ▸ hp))⟩
theorem Mods.alloc {S : Nat → Prop} (w : World) (o : Obj) : Mods S w (w.alloc o) := .of_below ((Below.refl _ _).alloc (Nat.le_refl _) _)
theorem Mods.cell {S : Nat → Prop} {w w' : World} (h : Mods S w w') {b o : Nat} (hb : b < w.heap.size) (hn : ¬ S b) : w'.cell? ⟨b, o, none⟩ = w.cell? ⟨b, o, none⟩ := World.cell?_of_block (w := w) (a := ⟨b, o, none⟩) (h.block b hb hn)
theorem lt_of_cell {w : World} {b o : Nat} {v : Value} (h : w.cell? ⟨b, o, none⟩ = some v) : b < w.heap.size := World.block_lt_of_cell? w ⟨b, o, none⟩ h

/-- v is a slice of as many rows as rs has; each of k cells; they lie in a block of D. -/
def Rd (D : Nat → Prop) (w : World) (k : Nat) (v : Value) (rs : List (List Value)) : Prop :=
  ∃ A c, v = .slice A rs.length c ∧ rs.length ≤ 9223372036854775807 ∧
    (0 < rs.length → ∃ b off, A = some ⟨b, off, none⟩ ∧ D b ∧ b < w.heap.size ∧ ∀ i, i < rs.length → (nth rs i).length = k ∧ ∀ j, j < k → w.cell? ⟨b, off + i * k + j, none⟩ = some (nth (nth rs i) j))
theorem Rd.frame {D : Nat → Prop} {w w' : World} {k : Nat} {v : Value} {rs : List (List Value)} (h : Rd D w k v rs) (hs : w.heap.size ≤ w'.heap.size)
    (hf : ∀ b, D b → b < w.heap.size → w'.heap[b]? = w.heap[b]?) : Rd D w' k v rs := by
  obtain ⟨A, c, e, hl, h⟩ := h
  refine ⟨A, c, e, hl, fun h0 => ?_⟩
  obtain ⟨b, off, hA, hD, hb, hc⟩ := h h0
  exact ⟨b, off, hA, hD, by omega, fun i hi => ⟨(hc i hi).1, fun j hj => (World.cell?_of_block (w := w) (a := ⟨b, _, none⟩) (hf b hD hb)).trans ((hc i hi).2 j hj)⟩⟩
theorem Rd.mono {D D' : Nat → Prop} {w : World} {k : Nat} {v : Value} {rs : List (List Value)} (h : Rd D w k v rs) (hD : ∀ b, D b → b < w.heap.size → D' b) : Rd D' w k v rs := by
  obtain ⟨A, c, e, hl, h⟩ := h
  exact ⟨A, c, e, hl, fun h0 => let ⟨b, off, hA, hd, hb, hc⟩ := h h0; ⟨b, off, hA, hD b hd hb, hb, hc⟩⟩
theorem Rd.below {D : Nat → Prop} {w w' : World} {k : Nat} {v : Value} {rs : List (List Value)} (h : Rd D w k v rs) (hb : Below w.heap.size w w') : Rd D w' k v rs :=
  h.frame hb.size fun b _ hl => hb.block b hl
theorem Rd.nil (D : Nat → Prop) (w : World) (k : Nat) : Rd D w k (.slice none 0 0) [] := ⟨none, 0, rfl, by simp, fun h => absurd h (by simp)⟩

/-- v reads as the whole numbers l. -/
def Ints (D : Nat → Prop) (w : World) (v : Value) (l : List Int) : Prop :=
  ∃ A c, v = .slice A l.length c ∧ l.length ≤ 9223372036854775807 ∧
    (0 < l.length → ∃ b off, A = some ⟨b, off, none⟩ ∧ D b ∧ b < w.heap.size ∧ ∀ j, j < l.length → w.cell? ⟨b, off + j, none⟩ = some (.int .i64 (nth l j)))
theorem Ints.frame {D : Nat → Prop} {w w' : World} {v : Value} {l : List Int} (h : Ints D w v l) (hs : w.heap.size ≤ w'.heap.size)
    (hf : ∀ b, D b → b < w.heap.size → w'.heap[b]? = w.heap[b]?) : Ints D w' v l := by
  obtain ⟨A, c, e, hl, h⟩ := h
  refine ⟨A, c, e, hl, fun h0 => ?_⟩
  obtain ⟨b, off, hA, hD, hb, hc⟩ := h h0
  exact ⟨b, off, hA, hD, by omega, fun j hj => (World.cell?_of_block (w := w) (a := ⟨b, _, none⟩) (hf b hD hb)).trans (hc j hj)⟩
theorem Ints.mono {D D' : Nat → Prop} {w : World} {v : Value} {l : List Int} (h : Ints D w v l) (hD : ∀ b, D b → b < w.heap.size → D' b) : Ints D' w v l := by
  obtain ⟨A, c, e, hl, h⟩ := h
  exact ⟨A, c, e, hl, fun h0 => let ⟨b, off, hA, hd, hb, hc⟩ := h h0; ⟨b, off, hA, hD b hd hb, hb, hc⟩⟩
theorem Ints.below {D : Nat → Prop} {w w' : World} {v : Value} {l : List Int} (h : Ints D w v l) (hb : Below w.heap.size w w') : Ints D w' v l :=
  h.frame hb.size fun b _ hl => hb.block b hl
theorem Ints.nil (D : Nat → Prop) (w : World) : Ints D w (.slice none 0 0) [] := ⟨none, 0, rfl, by simp, fun h => absurd h (by simp)⟩

/-- The whole numbers as cells. -/
def icells (l : List Int) : List Value := l.map (.int .i64)
theorem icells_length (l : List Int) : (icells l).length = l.length := by simp [icells]
theorem icells_append (l m : List Int) : icells (l ++ m) = icells l ++ icells m := by simp [icells]

theorem nthGet {l : List Value} {i : Nat} (h : i < l.length) : l[i]? = some (nth l i) := get?_nth h

/-- A row of the call's own that holds whole numbers reads as them. -/
theorem own_ints {w : World} {base n e : Nat} {v : Value} {l : List Int} (h : w.ownsRow base e 1 v n (icells l)) : Ints (fun b => v.ownBlock = some b ∧ base ≤ b) w v l := by
  have hl : l.length = n := by have := h.1; simp [icells] at this; exact this
  rcases h.2 with ⟨rfl, h0⟩ | ⟨g, cap, cur, rfl, hb, hh, h1, h2, _⟩
  · subst h0
    obtain rfl : l = [] := List.eq_nil_of_length_eq_zero hl
    exact Ints.nil _ _
  · refine ⟨_, cap, by rw [hl], by rw [hl]; have : cap ≤ 9223372036854775807 := h2; (try omega), fun h0 => ⟨g, 0, rfl, ⟨rfl, hb⟩, ?_, fun j hj => ?_⟩⟩
    · exact (Array.getElem?_eq_some_iff.1 hh).1
    · have hc := h.cells (g := g) rfl j (.int .i64 (nth l j)) (by simp [icells, get?_nth hj])
      have ha : (⟨g, 0, none⟩ : Addr).add j = ⟨g, 0 + j, none⟩ := by unfold Addr.add; split <;> simp_all
      rwa [ha] at hc

theorem block_old {W : World} {n : Nat} {x : Obj} (o : Obj) (h : W.heap[n]? = some x) : (W.alloc o).heap[n]? = some x := (Below.heap_alloc W o n (lt_of_block h)).trans h
theorem below_of_drewN {w w' : World} {n : Nat} (h : Below (w.drewN n).heap.size (w.drewN n) w') : Below w.heap.size w w' := ⟨h.os, h.tape, h.output, h.size, h.block⟩
theorem grown_drewN_alloc (w : World) (n : Nat) (o : Obj) (row : Option Nat) : w.grownBy ((w.drewN n).alloc o) row :=
  ⟨rfl, rfl, rfl, by simp, fun k hk _ => Below.heap_alloc (w.drewN n) o k hk⟩
theorem grown_cell {W w1 : World} {row : Option Nat} (hg : W.grownBy w1 row) {b o : Nat} (hb : b < W.heap.size) (hne : row ≠ some b) : w1.cell? ⟨b, o, none⟩ = W.cell? ⟨b, o, none⟩ :=
  World.cell?_of_block (w := W) (a := ⟨b, o, none⟩) (hg.block b hb (fun h => hne h.symm))
theorem cell_block {w : World} {b : Nat} {cs : List Value} {T : TypeId} (h : w.heap[b]? = some (.cells cs.toArray T (0, 0))) (j : Nat) (v : Value) (hv : cs[j]? = some v) : w.cell? ⟨b, j, none⟩ = some v := by
  rw [cell_of_row w b j cs.toArray T (0, 0) h]; simpa using hv
theorem lt_of_block {w : World} {b : Nat} {o : Obj} (h : w.heap[b]? = some o) : b < w.heap.size := (Array.getElem?_eq_some_iff.1 h).1
theorem block_new (W : World) (o : Obj) {n : Nat} (hn : n = W.heap.size) : (W.alloc o).heap[n]? = some o := by subst hn; exact heap_alloc_new W o

/-- A region that draws its order, whose operations all only read: one walk in the order of the text. -/
theorem region_still {P : Program} {id : Nat} {Q : Exit → Act → World → Prop} {a : Act} {w : World} {l : List Oper} (hm : P.follows .mixedOrders = true) (hB : Region.lexB .any l.toArray = true)
    (h : wpStill P l.toArray w.drew (fun a' => Q .normal a' w.drew) l a) : (Code.region id l.toArray true).wp P Q a w := wp_region_still_lit hm hB h
/-- The same where a tail, in one forced order, ends the region. -/
theorem region_tail {P : Program} {id : Nat} {Q : Exit → Act → World → Prop} {a : Act} {w : World} {l : List Oper} (n : Nat) (hm : P.follows .mixedOrders = true) (hB : Region.lexTailB .any l.toArray n = true)
    (h : wpStill P l.toArray w.drew (fun a' => wpList P l.toArray Q (l.drop n) a' w.drew) (l.take n) a) : (Code.region id l.toArray true).wp P Q a w := wp_region_still_tail n hm hB h
end Go.Proofs.Ytcnckmeelcfeeaa
