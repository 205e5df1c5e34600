/-
  Contract: a view's load.
-/
import Derived.Test.YtcnckmeelcfeeaaA14
namespace Go.Proofs.Ytcnckmeelcfeeaa
open Go.RowKit
set_option maxRecDepth 100000

structure Ld where
  s : Int
  c : Int
  i : Int
  m : Int
deriving Inhabited
def ldRow (x : Ld) : List Value := [.int .i64 x.s, .int .i64 x.c, .int .i64 x.i, .int .i64 x.m]
def ldStep (id : Int) (a x : Ld) : Ld := if x.s = id then x else a
def ldAt (ls : List Ld) (id : Int) : Ld := ls.foldl (ldStep id) ⟨0, 0, 0, 0⟩
theorem ldAt_snoc {ls : List Ld} {id : Int} {k : Nat} (h : k < ls.length) : ldAt (ls.take (k + 1)) id = ldStep id (ldAt (ls.take k) id) (nth ls k) := by
  rw [take_nth h]; simp [ldAt, List.foldl_append]
theorem Rd.lds {D : Nat → Prop} {w : World} {v : Value} {ss : List Ld} (h : Rd D w 4 v (ss.map ldRow)) : ∃ A c, v = .slice A ss.length c ∧
    (0 < ss.length → ∃ b off, A = some ⟨b, off, none⟩ ∧ D b ∧ b < w.heap.size ∧ ∀ i, i < ss.length → w.cell? ⟨b, off + i * 4, none⟩ = some (.int .i64 (nth ss i).s) ∧ w.cell? ⟨b, off + i * 4 + 1, none⟩ = some (.int .i64 (nth ss i).c) ∧ w.cell? ⟨b, off + i * 4 + 2, none⟩ = some (.int .i64 (nth ss i).i) ∧
      w.cell? ⟨b, off + i * 4 + 3, none⟩ = some (.int .i64 (nth ss i).m)) := by
  obtain ⟨A, c, rfl, -, hc⟩ := h
  refine ⟨A, c, by simp, fun h0 => ?_⟩
  obtain ⟨b, off, hA, hD, hb, hf⟩ := hc (by simpa using h0)
  refine ⟨b, off, hA, hD, hb, fun i hi => ?_⟩
  have hi' : i < (ss.map ldRow).length := by simpa using hi
  have e := nth_map ldRow hi
  have g := (hf i hi').2
  rw [e] at g
  exact ⟨g 0 (by omega), g 1 (by omega), g 2 (by omega), g 3 (by omega)⟩

set_option maxHeartbeats 1000000 in
theorem load_any (D : Nat → Prop) (vb : Nat) (lv : Value) (ls : List Ld) (id : Int) (w : World) (h6 : w.cell? ⟨vb, 6, none⟩ = some lv) (hr : Rd D w 4 lv (ls.map ldRow)) (hn : ls.length ≤ 1000) :
    Calls Try.prog 73 #[.pointer (some ⟨vb, 0, none⟩), .int .i64 id] w fun e w' => e = .returned (.agg #[.int .i64 (ldAt ls id).s, .int .i64 (ldAt ls id).c, .int .i64 (ldAt ls id).i, .int .i64 (ldAt ls id).m]) ∧ Below w.heap.size w w' := by
  have hvb := lt_of_cell h6
  obtain ⟨A, c, rfl, hc⟩ := hr.lds
  have Hc := Lib.hid hc; clear hc
  go_enter Try.func73, Try.ntmps73
  go_wp2
  have hB1 : Below w.heap.size w (w.alloc (.cells #[.int .i64 0, .int .i64 0, .int .i64 0, .int .i64 0] 89)) := (Below.refl _ _).alloc (Nat.le_refl _) _
  have k1 := block_new w (.cells #[.int .i64 0, .int .i64 0, .int .i64 0, .int .i64 0] 89) (n := w.heap.size) rfl
  have HB1 := Lib.hid hB1; clear hB1
  have K1 := Lib.hid k1; clear k1
  have hz1 : (w.alloc (.cells #[.int .i64 0, .int .i64 0, .int .i64 0, .int .i64 0] 89)).heap.size = w.heap.size + 1 := by simp
  generalize (w.alloc (.cells #[.int .i64 0, .int .i64 0, .int .i64 0, .int .i64 0] 89)) = w1 at *
  go_loopw [6, 12] (fun _ i wr => ∃ k : Nat, k ≤ ls.length ∧ i = .int .i64 k ∧ Hid (wr.heap[w.heap.size]? = some (.cells [.int .i64 (ldAt (ls.take k) id).s, .int .i64 (ldAt (ls.take k) id).c, .int .i64 (ldAt (ls.take k) id).i, .int .i64 (ldAt (ls.take k) id).m].toArray 89 (0, 0))) ∧ Hid (Below w.heap.size w wr)) (fun _ i _ => ls.length - (intOf i).toNat)
  case atStart => exact ⟨0, Nat.zero_le _, rfl, K1, HB1⟩
  case round =>
    obtain ⟨k, hk, rfl, Kb, HBw⟩ := hrel
    obtain ⟨wo, hwo⟩ : ∃ wo : World, wo = wr := ⟨_, rfl⟩
    subst hwo
    obtain ⟨L0, hL0⟩ : ∃ L0, L0 = ldAt (ls.take k) id := ⟨_, rfl⟩
    rw [← hL0] at Kb
    have HL0 := Lib.hid hL0; clear hL0
    have z0 := cell_block Kb.out 0 _ rfl
    have fz0 := frozen_of_row wo _ 0 _ _ Kb.out
    have z1 := cell_block Kb.out 1 _ rfl
    have fz1 := frozen_of_row wo _ 1 _ _ Kb.out
    have z2 := cell_block Kb.out 2 _ rfl
    have fz2 := frozen_of_row wo _ 2 _ _ Kb.out
    have z3 := cell_block Kb.out 3 _ rfl
    have fz3 := frozen_of_row wo _ 3 _ _ Kb.out
    have hwo : w.heap.size < wo.heap.size := lt_of_cell z0
    have S := fun (W : World) (j : Nat) (v : Value) => Mods.setCell (S := fun g => g = w.heap.size) W (p := ⟨w.heap.size, j, none⟩) rfl v
    have HS := Lib.hid S; clear S
    by_cases hlt : k < ls.length
    · obtain ⟨bl, ol, rfl, hDl, hbl2, hf⟩ := Hc.out (by omega)
      obtain ⟨g0, g1, g2, g3⟩ := hf k hlt
      have q0 := (HBw.out.cell (p := ⟨bl, ol + k * 4, none⟩) hbl2).trans g0
      have q1 := (HBw.out.cell (p := ⟨bl, ol + k * 4 + 1, none⟩) hbl2).trans g1
      have q2 := (HBw.out.cell (p := ⟨bl, ol + k * 4 + 2, none⟩) hbl2).trans g2
      have q3 := (HBw.out.cell (p := ⟨bl, ol + k * 4 + 3, none⟩) hbl2).trans g3
      clear g0 g1 g2 g3
      clear hf
      have Hsn := Lib.hid (ldAt_snoc (id := id) hlt)
      by_cases hid : (nth ls k).s = id
      · have Hs : Hid (ldAt (ls.take (k + 1)) id = nth ls k) := by show _ = _; rw [Hsn.out]; simp [ldStep, hid]
        go_wp2
        have HBa := (((HBw.out.setCell (p := ⟨w.heap.size, 0, none⟩) (Nat.le_refl _) (.int .i64 id)).setCell (p := ⟨w.heap.size, 1, none⟩) (Nat.le_refl _) (.int .i64 (nth ls k).c)).setCell (p := ⟨w.heap.size, 2, none⟩) (Nat.le_refl _) (.int .i64 (nth ls k).i)).setCell (p := ⟨w.heap.size, 3, none⟩) (Nat.le_refl _) (.int .i64 (nth ls k).m)
        refine ⟨⟨k + 1, by omega, by go_num, ?_, HBa.alloc HBa.size _⟩, by simp [intOf]; omega⟩
        show _ = _
        rw [Hs.out, hid]
        exact block_old _ (heap_setCell_same _ _ 3 _ _ _ (heap_setCell_same _ _ 2 _ _ _ (heap_setCell_same _ _ 1 _ _ _ (heap_setCell_same _ _ 0 _ _ _ Kb.out))))
      · have Hs : Hid (ldAt (ls.take (k + 1)) id = L0) := by show _ = _; rw [Hsn.out]; simp [ldStep, hid]; exact HL0.out.symm
        go_wp2
        refine ⟨⟨k + 1, by omega, by go_num, ?_, HBw.out.alloc HBw.out.size _⟩, by simp [intOf]; omega⟩
        show _ = _
        rw [Hs.out]
        exact block_old _ Kb.out
    · obtain rfl : k = ls.length := by omega
      rw [List.take_length] at HL0
      go_wp2
      rw [← show L0 = ldAt ls id from HL0.out]
      refine bodyPost_ret (results_cell_row rfl _ _ w.heap.size 89 #[.int .i64 L0.s, .int .i64 L0.c, .int .i64 L0.i, .int .i64 L0.m] (0, 0) _ rfl ?blk Try.underlying89 rfl (by kernel_rfl)) rfl ⟨rfl, ?_⟩
      case blk => exact heap_setCell_same _ _ 3 _ _ _ (heap_setCell_same _ _ 2 _ _ _ (heap_setCell_same _ _ 1 _ _ _ (heap_setCell_same _ _ 0 _ _ _ Kb.out)))
      exact (((HBw.out.setCell (p := ⟨w.heap.size, 0, none⟩) (Nat.le_refl _) _).setCell (p := ⟨w.heap.size, 1, none⟩) (Nat.le_refl _) _).setCell (p := ⟨w.heap.size, 2, none⟩) (Nat.le_refl _) _).setCell (p := ⟨w.heap.size, 3, none⟩) (Nat.le_refl _) _
end Go.Proofs.Ytcnckmeelcfeeaa
