/-
  Contracts: a view's mute and long where the rule is 0.
-/
import Derived.Test.YtcnckmeelcfeeaaA9
import Derived.Deep.DeepBigQuietO
import Derived.Deep.DeepMust
import Derived.Lib.Hide
namespace Go.Proofs.Ytcnckmeelcfeeaa
open Go.RowKit
set_option maxRecDepth 100000

theorem results_row_tmp {P : Program} {fn : Func} {p u : Tmp} {ty : TypeId} (h : fn.results = #[.cell p ty, .tmp u]) (tmps : Array Value) (w : World) (g : Nat) (t : TypeId) (cs : Array Value) (fr : Nat × Nat) (d : TypeDesc)
    (hp : tmps.getD p undef = .pointer (some ⟨g, 0, none⟩)) (hg : w.heap[g]? = some (.cells cs t fr))
    (hu : P.underlying ty = some d) (hd : (match d with | .struct _ | .array _ _ => true | _ => false) = true) (hi : (P.info? ty).map (·.size) = some cs.size) :
    (results fn tmps).run P w = .ok (.tuple #[.agg cs, tmps.getD u undef]) w := by
  rw [results_cell_tmp h, hp]
  simp [asAddr, run_loadVar_row w g t ty cs fr d hg hu hd hi, Result.andThen]


/-- A shard as a row holds it: its slices as they lie. -/
structure Shv where
  id : Int
  f : Int
  t : Int
  ma : Option Addr
  mn : Nat
  mc : Nat
  pa : Option Addr
  pn : Nat
  pc : Nat
deriving Inhabited
def shRow (s : Shv) : List Value := [.int .i64 s.id, .int .i64 s.f, .int .i64 s.t, .slice s.ma s.mn s.mc, .slice s.pa s.pn s.pc]
theorem Rd.shds {D : Nat → Prop} {w : World} {v : Value} {ss : List Shv} (h : Rd D w 5 v (ss.map shRow)) : ∃ A c, v = .slice A ss.length c ∧
    (0 < ss.length → ∃ b off, A = some ⟨b, off, none⟩ ∧ D b ∧ b < w.heap.size ∧ ∀ i, i < ss.length → w.cell? ⟨b, off + i * 5, none⟩ = some (.int .i64 (nth ss i).id) ∧ w.cell? ⟨b, off + i * 5 + 1, none⟩ = some (.int .i64 (nth ss i).f) ∧ w.cell? ⟨b, off + i * 5 + 2, none⟩ = some (.int .i64 (nth ss i).t) ∧
      w.cell? ⟨b, off + i * 5 + 3, none⟩ = some (.slice (nth ss i).ma (nth ss i).mn (nth ss i).mc) ∧ w.cell? ⟨b, off + i * 5 + 4, none⟩ = some (.slice (nth ss i).pa (nth ss i).pn (nth ss i).pc)) := by
  obtain ⟨A, c, rfl, -, hc⟩ := h
  refine ⟨A, c, by simp, fun h0 => ?_⟩
  obtain ⟨b, off, hA, hD, hb, hf⟩ := hc (by simpa using h0)
  refine ⟨b, off, hA, hD, hb, fun i hi => ?_⟩
  have hi' : i < (ss.map shRow).length := by simpa using hi
  have e := nth_map shRow hi
  have g := (hf i hi').2
  rw [e] at g
  exact ⟨g 0 (by omega), g 1 (by omega), g 2 (by omega), g 3 (by omega), g 4 (by omega)⟩

def noChange : Value := .agg #[.int .i64 0, .int .i64 0, .int .i64 0, .int .i64 0, .int .i64 0, .int .i64 0]

theorem mute_off (vb : Nat) (w : World) (h4 : w.cell? ⟨vb, 4, none⟩ = some (.int .i64 0)) :
    Calls Try.prog 45 #[.pointer (some ⟨vb, 0, none⟩)] w fun e w' => e = .returned (.tuple #[noChange, .bool false]) ∧ Below w.heap.size w w' := by
  have hvb := lt_of_cell h4
  go_enter Try.func45, Try.ntmps45
  go_wp2
  exact bodyPost_ret (results_row_tmp rfl _ _ (w.heap.size + 1) 25 #[.int .i64 0, .int .i64 0, .int .i64 0, .int .i64 0, .int .i64 0, .int .i64 0] (0, 0) _ rfl (block_new _ _ (by simp)) Try.underlying25 rfl (by kernel_rfl)) rfl ⟨rfl, by (repeat (first | exact Below.refl _ _ | refine below_drewN ?_ _ | refine Below.drew ?_ | refine Below.alloc ?_ (by simp <;> omega) _))⟩

theorem long_off (D : Nat → Prop) (vb : Nat) (sv : Value) (rs : List Shv) (w : World) (h0 : w.cell? ⟨vb, 0, none⟩ = some sv) (h3 : w.cell? ⟨vb, 3, none⟩ = some (.int .i64 0)) (hr : Rd D w 5 sv (rs.map shRow)) (hn : rs.length ≤ 1000) :
    Calls Try.prog 46 #[.pointer (some ⟨vb, 0, none⟩)] w fun e w' => e = .returned (.tuple #[noChange, .bool false]) ∧ Below w.heap.size w w' := by
  have hvb := lt_of_cell h3
  obtain ⟨A, c, rfl, hc⟩ := hr.shds
  have Hc := Lib.hid hc; clear hc
  have d0 : decide ((0 : Int) < 0) = false := rfl
  go_enter Try.func46, Try.ntmps46
  go_wp2
  have hB1 : Below w.heap.size w (w.alloc (.cells #[.int .i64 0, .int .i64 0, .int .i64 0, .int .i64 0, .int .i64 0, .int .i64 0] 25)) := (Below.refl _ _).alloc (Nat.le_refl _) _
  have k1 := block_new w (.cells #[.int .i64 0, .int .i64 0, .int .i64 0, .int .i64 0, .int .i64 0, .int .i64 0] 25) (n := w.heap.size) rfl
  have HB1 := Lib.hid hB1; clear hB1
  have K1 := Lib.hid k1; clear k1
  have hz1 : (w.alloc (.cells #[.int .i64 0, .int .i64 0, .int .i64 0, .int .i64 0, .int .i64 0, .int .i64 0] 25)).heap.size = w.heap.size + 1 := by simp
  generalize (w.alloc (.cells #[.int .i64 0, .int .i64 0, .int .i64 0, .int .i64 0, .int .i64 0, .int .i64 0] 25)) = w1 at *
  go_loopw [5, 11] (fun _ i wr => ∃ k : Nat, k ≤ rs.length ∧ i = .int .i64 k ∧ Below w1.heap.size w1 wr) (fun _ i _ => rs.length - (intOf i).toNat)
  case atStart => exact ⟨0, Nat.zero_le _, rfl, Below.refl _ _⟩
  case round =>
    obtain ⟨k, hk, rfl, hB⟩ := hrel
    obtain ⟨wo, hwo⟩ : ∃ wo : World, wo = wr := ⟨_, rfl⟩
    subst hwo
    have hBw : Below w.heap.size w wo := HB1.out.trans (hB.mono (by omega))
    have e0 := (hBw.cell (p := ⟨vb, 0, none⟩) hvb).trans h0
    have e3 := (hBw.cell (p := ⟨vb, 3, none⟩) hvb).trans h3
    have hvo : vb < wo.heap.size := lt_of_cell e3
    by_cases hlt : k < rs.length
    · obtain ⟨bl, ol, rfl, hDl, hbl2, hf⟩ := Hc.out (by omega)
      obtain ⟨g0, g1, g2, g3, g4⟩ := hf k hlt
      have q0 := (hBw.cell (p := ⟨bl, ol + k * 5, none⟩) hbl2).trans g0
      have q1 := (hBw.cell (p := ⟨bl, ol + k * 5 + 1, none⟩) hbl2).trans g1
      have q2 := (hBw.cell (p := ⟨bl, ol + k * 5 + 2, none⟩) hbl2).trans g2
      have q3 := (hBw.cell (p := ⟨bl, ol + k * 5 + 3, none⟩) hbl2).trans g3
      have q4 := (hBw.cell (p := ⟨bl, ol + k * 5 + 4, none⟩) hbl2).trans g4
      clear g0 g1 g2 g3 g4
      clear hf
      go_wp2
      go_big_quiet (fail)
      go_wp2
      exact ⟨⟨k + 1, by omega, by go_num, below_drewN (hB.alloc hB.size _) _⟩, by simp [intOf]; omega⟩
    · obtain rfl : k = rs.length := by omega
      have kb : wo.heap[w.heap.size]? = some (.cells [.int .i64 0, .int .i64 0, .int .i64 0, .int .i64 0, .int .i64 0, .int .i64 0].toArray 25 (0, 0)) := (hB.block _ (by omega)).trans K1.out
      have z0 := cell_block kb 0 _ rfl
      have fz0 := frozen_of_row wo _ 0 _ _ kb
      have z1 := cell_block kb 1 _ rfl
      have fz1 := frozen_of_row wo _ 1 _ _ kb
      have z2 := cell_block kb 2 _ rfl
      have fz2 := frozen_of_row wo _ 2 _ _ kb
      have z3 := cell_block kb 3 _ rfl
      have fz3 := frozen_of_row wo _ 3 _ _ kb
      have z4 := cell_block kb 4 _ rfl
      have fz4 := frozen_of_row wo _ 4 _ _ kb
      have z5 := cell_block kb 5 _ rfl
      have fz5 := frozen_of_row wo _ 5 _ _ kb
      have Kb := Lib.hid kb; clear kb
      have HBw := Lib.hid hBw; clear hBw
      go_wp2
      refine bodyPost_ret (results_row_tmp rfl _ _ w.heap.size 25 #[.int .i64 0, .int .i64 0, .int .i64 0, .int .i64 0, .int .i64 0, .int .i64 0] (0, 0) _ rfl ?blk Try.underlying25 rfl (by kernel_rfl)) rfl ⟨rfl, ?_⟩
      case blk => exact heap_setCell_same _ _ 5 _ _ _ (heap_setCell_same _ _ 4 _ _ _ (heap_setCell_same _ _ 3 _ _ _ (heap_setCell_same _ _ 2 _ _ _ (heap_setCell_same _ _ 1 _ _ _ (heap_setCell_same _ _ 0 _ _ _ Kb.out)))))
      have S := fun (W : World) (j : Nat) (v : Value) => Mods.setCell (S := fun g => g = w.heap.size) W (p := ⟨w.heap.size, j, none⟩) rfl v
      exact HBw.out.trans (((((((S _ _ _).trans (S _ _ _) (fun _ _ h => h)).trans (S _ _ _) (fun _ _ h => h)).trans (S _ _ _) (fun _ _ h => h)).trans (S _ _ _) (fun _ _ h => h)).trans (S _ _ _) (fun _ _ h => h)).below (B := w.heap.size) HBw.out.size (fun x _ h => by omega))

end Go.Proofs.Ytcnckmeelcfeeaa
