/-
  Contracts: a Map that has nothing: Drop, Put.
-/
import Derived.Test.YtcnckmeelcfeeaaA6
import Derived.Test.YtcnckmeelcfeeaaA2
import Derived.BigQuiet
namespace Go.Proofs.Ytcnckmeelcfeeaa
open Go.RowKit
set_option maxRecDepth 100000

theorem set_same {cs : Array Value} {i : Nat} {v : Value} (h : cs[i]? = some v) : cs.setIfInBounds i v = cs := by
  apply Array.ext_getElem?
  intro j
  rw [Array.getElem?_setIfInBounds]
  split
  · next h1 => subst h1; split <;> simp_all
  · rfl
/-- Drop from a Map that has nothing. -/
theorem drop_nothing (b off T : Nat) (cs : Array Value) (s : Sp) (w : World) (hb : w.heap[b]? = some (.cells cs T (0, 0))) (hcl : cs[off]? = some (.slice none 0 0)) (hcv : cs[off + 1]? = some (.slice none 0 0)) (hs : s.f < s.t) :
    Calls Try.prog 52 #[.pointer (some ⟨b, off, none⟩), .agg #[.int .i64 s.f, .int .i64 s.t]] w fun e w' => e = .returned (.tuple #[]) ∧ w'.heap[b]? = some (.cells cs T (0, 0)) ∧ Mods (fun g => g = b) w w' := by
  have hss : (cs.setIfInBounds off (.slice none 0 0)).setIfInBounds (off + 1) (.slice none 0 0) = cs := by rw [set_same hcl, set_same hcv]
  have Hss := Lib.hid hss; clear hss
  have c0 : w.cell? ⟨b, off, none⟩ = some (.slice none 0 0) := by rw [cell_of_row w b off cs T (0, 0) hb]; exact hcl
  have c1 : w.cell? ⟨b, off + 1, none⟩ = some (.slice none 0 0) := by rw [cell_of_row w b (off + 1) cs T (0, 0) hb]; exact hcv
  have hbl := lt_of_block hb
  have Hb := Lib.hid hb; clear hb hcl hcv
  go_enter Try.func52, Try.ntmps52
  go_wp2_with (go_at_call 77; refine (empty_no _ _ hs _).mono ?_; rintro e w1 ⟨rfl, hb1⟩; have hb1' := hb1.size; have d0 := (hb1.cell (p := ⟨b, off, none⟩) (by simp; omega)).trans ((Below.cell ((Below.refl w.heap.size w).alloc (Nat.le_refl _) _) (p := ⟨b, off, none⟩) hbl).trans c0))
  have hBw : Below w.heap.size w w1 := ((Below.refl _ _).alloc (Nat.le_refl _) _).trans (hb1.mono (by simp))
  clear hb1 d0 hb1'
  have hbo := (hBw.block b hbl).trans Hb.out
  have e0 := (hBw.cell (p := ⟨b, off, none⟩) hbl).trans c0
  have e1 := (hBw.cell (p := ⟨b, off + 1, none⟩) hbl).trans c1
  have f0 : w1.frozen? ⟨b, off, none⟩ = false := frozen_of_row w1 b off cs T hbo
  have f1 : w1.frozen? ⟨b, off + 1, none⟩ = false := frozen_of_row w1 b (off + 1) cs T hbo
  have Hbo := Lib.hid hbo; clear hbo
  have Hm : Hid (Mods (fun g => g = b) w1 ((w1.setCell ⟨b, off, none⟩ (.slice none 0 0)).setCell ⟨b, off + 1, none⟩ (.slice none 0 0))) := (Mods.setCell (S := fun g => g = b) w1 rfl _).trans (Mods.setCell (S := fun g => g = b) _ rfl _) (fun _ _ h => h)
  refine wp_loop_rounds 1 ?_
  rw [rounds_succ]
  go_wp2
  go_end0
  have h1 := heap_setCell_same _ b (off + 1) _ T (.slice none 0 0) (heap_setCell_same w1 b off cs T (.slice none 0 0) Hbo.out)
  rw [Hss.out] at h1
  exact ⟨rfl, h1, (Mods.of_below hBw).trans Hm.out (fun _ _ h => h)⟩

theorem glue_low (b off : Nat) (at' : Int) (w : World) (ha : at' < 1) :
    Calls Try.prog 95 #[.pointer (some ⟨b, off, none⟩), .int .i64 at'] w fun e w' => e = .returned (.tuple #[]) ∧ Below w.heap.size w w' := by
  go_enter Try.func95, Try.ntmps95
  go_wp2
  go_quiet (fail)
  go_wp2
  exact bodyPost_ret (results_none rfl _ _ _) rfl ⟨rfl, below_drewN (Below.refl _ _) _⟩
set_option maxHeartbeats 1000000 in
theorem glue_high (b off : Nat) (at' : Int) (A : Option Addr) (n c : Nat) (w : World) (h0 : w.cell? ⟨b, off, none⟩ = some (.slice A n c)) (ha : (n : Int) ≤ at') (h1 : 1 ≤ at') :
    Calls Try.prog 95 #[.pointer (some ⟨b, off, none⟩), .int .i64 at'] w fun e w' => e = .returned (.tuple #[]) ∧ Below w.heap.size w w' := by
  have d1 : decide (at' < 1) = false := decide_eq_false (by omega)
  have d2 : decide ((n : Int) ≤ at') = true := decide_eq_true ha
  go_enter Try.func95, Try.ntmps95
  go_wp2
  go_big_quiet (fail)
  go_wp2
  exact bodyPost_ret (results_none rfl _ _ _) rfl ⟨rfl, below_drewN (Below.refl _ _) _⟩
end Go.Proofs.Ytcnckmeelcfeeaa
