/-
  Contract: a Map's Each: what its closure hands to a loop's body.
-/
import Derived.RangeFuncNested
import Derived.RangeFuncBound
import Derived.RangeFuncCalls
import Derived.RangeFuncLeaves
import Derived.RangeFuncBox
import Derived.Stop.RegionWithIn
import Derived.Shelf.Abstract
import Derived.Shelf.RegionOpen
import Derived.WalkKit
import Derived.OwnWalkIn
import Derived.TacticsInMore
import Derived.LoopNIn
import Derived.LoopIn
import Derived.Test.YtcnckmeelcfeeaaA12
namespace Go.Proofs.Ytcnckmeelcfeeaa
open Go.RowKit Go.Shelf
attribute [local go_sem] Oper.semAt_some
set_option maxRecDepth 100000

theorem each_at (b off : Nat) (w : World) :
    Calls Try.prog 54 #[.pointer (some ⟨b, off, none⟩)] w fun e w' => e = .returned (.func (.func 80) #[] #[.pointer (some ⟨w.heap.size, 0, none⟩)]) ∧ w' = w.alloc (.cells #[.pointer (some ⟨b, off, none⟩)] 139) := by
  go_enter Try.func54, Try.ntmps54
  go_wp2
  go_ret
  exact ⟨rfl, rfl⟩

/-- What a round keeps: the blocks of spans, numbers and Maps. -/
def KpT (W W' : World) : Prop := W.heap.size ≤ W'.heap.size ∧ ∀ (g : Nat) (cs : Array Value) (T : TypeId) (fr : Nat × Nat), (T = 36 ∨ T = 3 ∨ T = 95 ∨ T = 139) → W.heap[g]? = some (.cells cs T fr) → W'.heap[g]? = some (.cells cs T fr)
theorem KpT.refl (W : World) : KpT W W := ⟨Nat.le_refl _, fun _ _ _ _ _ h => h⟩
theorem KpT.trans {A B C : World} (h : KpT A B) (k : KpT B C) : KpT A C := ⟨Nat.le_trans h.1 k.1, fun g cs T fr hT hg => k.2 g cs T fr hT (h.2 g cs T fr hT hg)⟩
theorem KpT.of_below {W W' : World} (h : Below W.heap.size W W') : KpT W W' := ⟨h.size, fun g _ _ _ _ hg => (h.block g (lt_of_block hg)).trans hg⟩
theorem KpT.rd {W W' : World} (h : KpT W W') {g : Nat} {cs : List Value} {T : TypeId} (hT : T = 36 ∨ T = 3 ∨ T = 95 ∨ T = 139) (hg : W.heap[g]? = some (.cells cs.toArray T (0, 0))) : W'.heap[g]? = some (.cells cs.toArray T (0, 0)) := h.2 g _ T _ hT hg

theorem KpT.putObj (W : World) (l : Nat) (o o' : Obj) (ho : W.heap[l]? = some o) (hc : o.isCells = false) : KpT W (W.putObj l o') := by
  refine ⟨by simp [World.putObj], fun g cs T fr _ hg => ?_⟩
  by_cases e : g = l
  · subst e; rw [ho] at hg; injection hg with hg; subst hg; simp [Obj.isCells] at hc
  · exact (World.putObj_heap_other e).trans hg
theorem OwnR.kpt {w w' : World} {b e k : Nat} {v : Value} {rs : List (List Value)} (h : OwnR w b e k v rs) (hT : e = 36 ∨ e = 3 ∨ e = 95 ∨ e = 139) (hk : KpT w w') : OwnR w' b e k v rs := by
  rcases h.1.2 with h0 | ⟨g, cap, cur, e1, e2, e3, e4⟩
  · exact ⟨⟨h.1.1, .inl h0⟩, h.2⟩
  · exact ⟨⟨h.1.1, .inr ⟨g, cap, cur, e1, e2, hk.2 g cur e _ hT e3, e4⟩⟩, h.2⟩

set_option maxHeartbeats 2000000 in
theorem each1_in {α : Type} (f : α → Sp × Int) (xs : List α) (n : Nat) (hn : 1 ≤ n) (D1 D2 : Nat → Prop) (l Bs b off : Nat) (lv vv : Value) (ps : List (Sp × Int)) (hfa : ps = xs.map f) (J Jx : List α → World → Prop) (W : World) (hJ : AbidesFrom W.heap.size J)
    (hY : ∀ pre x W1, J pre W1 → pre.length < ps.length → YieldAt Fence.wide (n - 1) Try.prog l #[sval (f x).1, .int .i64 (f x).2] W1 fun e W' =>
      (e = .returned (.bool true) ∧ J (pre ++ [x]) W' ∧ KpT W1 W') ∨ (e = .returned (.bool false) ∧ Jx (pre ++ [x]) W'))
    (hBs : W.cell? ⟨Bs, 0, none⟩ = some (.pointer (some ⟨b, off, none⟩))) (c0 : W.cell? ⟨b, off, none⟩ = some lv) (c1 : W.cell? ⟨b, off + 1, none⟩ = some vv)
    (hL : Rd D1 W 2 lv (prows ps)) (hV : Rd D2 W 1 vv (vrows ps)) (hps : ps.length ≤ 1000) (h0 : J [] W) :
    CallsIn Fence.wide n Try.prog 80 #[.func (.yield l) #[] #[], .pointer (some ⟨Bs, 0, none⟩)] W fun e W' => (∃ v, e = .returned v) ∧
      ((∃ ys, ys = xs ∧ J ys W') ∨ (∃ pre, (∃ k, k ≤ xs.length ∧ pre = xs.take k) ∧ Jx pre W')) := by
  have Hfa := Lib.hid hfa; clear hfa
  refine callsIn_of_wp Try.func80 rfl trivial ?_ rfl
  simp only [Try.ntmps80, List.size_toArray, List.length_cons, List.length_nil, Nat.reduceAdd, Nat.reduceSub, Array.replicate_succ, Array.replicate_zero, List.push_toArray, List.append_toArray, List.nil_append, List.cons_append]
  gi_wp2_with (refine ⟨trivial, ?_⟩; gi_at_call 81; go_must (refine (callsIn_wide.2 (mapClone_any D1 D2 b off lv vv ps _ c0 c1 hL hV hps)).mono ?_; rintro e w1 ⟨nb, lv', vv', rfl, hnb, kM, oL, oV, hB1⟩; have sL := oL.slice; have sV := oV.slice; rw [prows_length] at sL; rw [vrows_length] at sV; obtain ⟨AL, cL, rfl⟩ := sL; obtain ⟨AV, cV, rfl⟩ := sV; have m0 := cell_block kM 0 _ rfl; have m1 := cell_block kM 1 _ rfl))
  have lL := oL.lt; have lV := oV.lt
  have J1 : J [] w1 := hJ [] W w1 none h0 ⟨hB1.os, hB1.tape, hB1.output, hB1.size, fun k hk _ => hB1.block k hk⟩ (fun r e => by cases e)
  have hnbl := lt_of_block kM
  gi_loopw [4, 5, 13] (fun _ _ i wr => ∃ k : Nat, k ≤ ps.length ∧ i = .int .i64 k ∧ J (xs.take k) wr ∧ Hid (KpT w1 wr)) (fun _ _ i _ => ps.length - (intOf i).toNat)
  case atStart => exact ⟨0, Nat.zero_le _, rfl, by simpa using J1, KpT.refl _⟩
  case round =>
    obtain ⟨k, hk, rfl, hJs, hK⟩ := hrel
    obtain ⟨wo, hwo⟩ : ∃ wo : World, wo = wr := ⟨_, rfl⟩
    subst hwo
    have pL := oL.kpt (.inl rfl) hK.out
    have pV := oV.kpt (.inr (.inl rfl)) hK.out
    have kM2 := hK.out.rd (.inr (.inr (.inl rfl))) kM
    have m0 := cell_block kM2 0 _ rfl
    have m1 := cell_block kM2 1 _ rfl
    have hnw : nb < wo.heap.size := lt_of_block kM2
    by_cases hlt : k < ps.length
    · obtain ⟨bl, ol, e1, -, hbl, hlf, hlt2⟩ := pL.rd.spansP.2 (by simpa using (by omega : 0 < ps.length))
      obtain ⟨bv, ov, e2, -, hbv, hvf⟩ := pV.rd.valsP.2 (by simpa using (by omega : 0 < ps.length))
      have q0 := hlf k hlt
      have q1 := hlt2 k hlt
      have q2 := hvf k hlt
      subst e1 e2
      clear hlf hlt2 hvf
      have J2 : J (xs.take k) (wo.alloc (.cells #[.int .i64 (nth ps k).1.f, .int .i64 (nth ps k).1.t] 36)) := hJ _ wo _ none hJs (World.grownBy_alloc wo _ none) (fun r e => by cases e)
      have J3 : J (xs.take k) (wo.alloc (.cells #[.int .i64 (nth ps k).1.f, .int .i64 (nth ps k).1.t] 36)).drew := hJ _ _ _ none J2 ⟨rfl, rfl, rfl, Nat.le_refl _, fun _ _ _ => rfl⟩ (fun r e => by cases e)
      have hka : k < xs.length := by have h1 := hlt; rw [show ps = xs.map f from Hfa.out, List.length_map] at h1; exact h1
      obtain ⟨xa, hxa, hta⟩ : ∃ xa : α, f xa = nth ps k ∧ xs.take (k + 1) = xs.take k ++ [xa] := ⟨xs[k], by rw [nth_get hlt]; simp [show ps = xs.map f from Hfa.out], by rw [List.take_succ_eq_append_getElem hka]⟩
      obtain ⟨fn, tmps, assign, body, hy, hR⟩ := hY (xs.take k) xa _ J3 (by rw [List.length_take]; omega)
      rw [hxa] at hy
      have Hxa := Lib.hid hxa; have Hta := Lib.hid hta; clear hxa hta
      simp only [sval] at hy
      gi_wp2
      gi_region_with (refine hR.mono ?_; rintro e W3 h3; obtain ⟨bb, rfl, h4⟩ : ∃ bb, e = .returned (.bool bb) ∧ ((bb = true ∧ J (xs.take k ++ [xa]) W3 ∧ KpT (wo.alloc (.cells #[.int .i64 (nth ps k).1.f, .int .i64 (nth ps k).1.t] 36)).drew W3) ∨ (bb = false ∧ Jx (xs.take k ++ [xa]) W3)) := (by rcases h3 with ⟨r1, r2⟩ | ⟨r1, r2⟩; exact ⟨true, r1, .inl ⟨rfl, r2⟩⟩; exact ⟨false, r1, .inr ⟨rfl, r2⟩⟩))
      all_goals
        rcases h4 with ⟨rfl, hJ4, hk4⟩ | ⟨rfl, hJx4⟩
        · have hKn : KpT w1 W3 := hK.out.trans ((KpT.of_below (by repeat (first | exact Below.refl _ _ | refine Below.drew ?_ | refine Below.alloc ?_ (by simp) _))).trans hk4)
          gi_wp2
          go_roundw
          case rel => exact ⟨k + 1, by omega, by simp, by rw [show xs.take (k + 1) = _ from Hta.out]; exact hJ4, hKn⟩
          case measure => simp [intOf]; omega
        · gi_wp2
          refine bodyPost_ret (results_none rfl _ _ _) rfl ?_
          exact ⟨⟨_, rfl⟩, .inr ⟨_, ⟨k + 1, by omega, (show xs.take (k + 1) = _ from Hta.out).symm⟩, hJx4⟩⟩
    · obtain rfl : k = ps.length := by omega
      rw [show xs.take ps.length = xs by rw [show ps = xs.map f from Hfa.out, List.length_map, List.take_length]] at hJs
      gi_wp2
      go_end0
      exact ⟨⟨_, rfl⟩, .inl ⟨_, rfl, hJs⟩⟩

theorem each_stops {α : Type} (f : α → Sp × Int) (xs : List α) (n : Nat) (hn : 1 ≤ n) (D1 D2 : Nat → Prop) (Bs b off : Nat) (lv vv : Value) (ps : List (Sp × Int)) (hfa : ps = xs.map f) (w : World)
    (hBs : w.cell? ⟨Bs, 0, none⟩ = some (.pointer (some ⟨b, off, none⟩))) (c0 : w.cell? ⟨b, off, none⟩ = some lv) (c1 : w.cell? ⟨b, off + 1, none⟩ = some vv)
    (hL : Rd D1 w 2 lv (prows ps)) (hV : Rd D2 w 1 vv (vrows ps)) (hps : ps.length ≤ 1000) :
    SeqStopsK Fence.wide n Try.prog 80 #[.pointer (some ⟨Bs, 0, none⟩)] (fun x : α => #[sval (f x).1, .int .i64 (f x).2]) KpT (fun ys => ys = xs) (fun pre => ∃ k, k ≤ xs.length ∧ pre = xs.take k) ps.length w := fun l J Jx W hW hJ _ hY h0 =>
  each1_in f xs n hn D1 D2 l Bs b off lv vv ps hfa J Jx W hJ hY ((hW.cell (p := ⟨Bs, 0, none⟩) (lt_of_cell hBs)).trans hBs) ((hW.cell (p := ⟨b, off, none⟩) (lt_of_cell c0)).trans c0) ((hW.cell (p := ⟨b, off + 1, none⟩) (lt_of_cell c1)).trans c1) (hL.below hW) (hV.below hW) hps h0
end Go.Proofs.Ytcnckmeelcfeeaa
