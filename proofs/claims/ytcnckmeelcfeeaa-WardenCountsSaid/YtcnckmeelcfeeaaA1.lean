/-
  Contracts: empty spans; which rows are members; which rules may be; clones.
-/
import Derived.Test.YtcnckmeelcfeeaaProg
import Derived.Test.YtcnckmeelcfeeaaLamOwn
import Derived.Lib.SliceRun
namespace Go.Proofs.Ytcnckmeelcfeeaa
open Go.RowKit
set_option maxRecDepth 100000

set_option maxHeartbeats 400000 in
theorem empty_any (a b : Int) (w : World) :
    Calls Try.prog 77 #[.agg #[.int .i64 a, .int .i64 b]] w fun e w' => e = .returned (.bool (decide (b ≤ a))) ∧ Below w.heap.size w w' := by
  go_enter Try.func77, Try.ntmps77
  go_wp2
  go_ret
  exact ⟨rfl, (Below.refl _ _).alloc (Nat.le_refl _) _⟩

theorem empty_yes (a b : Int) (h : b ≤ a) (w : World) :
    Calls Try.prog 77 #[.agg #[.int .i64 a, .int .i64 b]] w fun e w' => e = .returned (.bool true) ∧ Below w.heap.size w w' :=
  (empty_any a b w).mono fun e w' ⟨he, hb⟩ => ⟨by rw [he, decide_eq_true h], hb⟩
theorem empty_no (a b : Int) (h : a < b) (w : World) :
    Calls Try.prog 77 #[.agg #[.int .i64 a, .int .i64 b]] w fun e w' => e = .returned (.bool false) ∧ Below w.heap.size w w' :=
  (empty_any a b w).mono fun e w' ⟨he, hb⟩ => ⟨by rw [he, decide_eq_false (by omega)], hb⟩

def imAt (l : List Int) (i : Nat) : Bool := decide (0 ≤ nth l i) && decide (nth l i < 7) && (decide (i = 0) || decide (nth l (i-1) < nth l i))
def isMembers (l : List Int) : Bool := (List.range l.length).all (imAt l) && decide (l.length % 2 = 1)
theorem isMembers_no {l : List Int} {k : Nat} (hk : k < l.length) (h : imAt l k = false) : isMembers l = false := by
  have : (List.range l.length).all (imAt l) = false := by
    rw [List.all_eq_false]; exact ⟨k, by simpa using hk, by simp [h]⟩
  simp [isMembers, this]
theorem isMembers_all {l : List Int} (h : ∀ j, j < l.length → imAt l j = true) : isMembers l = decide (l.length % 2 = 1) := by
  have : (List.range l.length).all (imAt l) = true := by
    rw [List.all_eq_true]; intro x hx; exact h x (by simpa using hx)
  simp [isMembers, this]

set_option maxHeartbeats 400000 in
set_option maxRecDepth 100000 in
theorem isMembers_any (D : Nat → Prop) (v : Value) (l : List Int) (w : World) (h : Ints D w v l) :
    Calls Try.prog 28 #[v] w fun e w' => e = .returned (.bool (isMembers l)) ∧ w = w' := by
  obtain ⟨A, c, rfl, hl, hc⟩ := h
  go_enter Try.func28, Try.ntmps28
  go_wp2
  go_loop [7] (fun i => ∃ k : Nat, k ≤ l.length ∧ i = .int .i64 k ∧ Hid (∀ j, j < k → imAt l j = true)) (fun i => l.length - (intOf i).toNat)
  case atStart => exact ⟨0, Nat.zero_le _, rfl, by simp [Hid]⟩
  case round =>
    obtain ⟨k, hk, rfl, hall⟩ := hrel
    by_cases hlt : k < l.length
    · obtain ⟨b, off, rfl, hD, hb, hcell⟩ := hc (by omega)
      have q0 := hcell k hlt
      have q1 := hcell (k - 1) (by omega)
      clear hc hcell
      go_wp2
      all_goals first
        | exact ⟨⟨k + 1, by omega, by go_num, hid_step hall (by simp [imAt]; omega)⟩, by simp [intOf]; omega⟩
        | (go_ret; exact ⟨ret_bool (isMembers_no hlt (by simp [imAt]; omega)).symm, rfl⟩)
    · go_wp2
      go_ret
      exact ⟨ret_bool (by rw [isMembers_all (fun j hj => hall j (by omega)), Bool.eq_iff_iff]; simp; omega), rfl⟩

theorem Try.infoInt : (Try.prog.info? 3).map (fun i => (i.zero, i.size, i.bytes)) = some (some (.int .i64 0), 1, 8) := by kernel_rfl
theorem Try.infoSpan : (Try.prog.info? 36).map (fun i => (i.zero, i.size, i.bytes)) = some (some (.agg #[.int .i64 0, .int .i64 0]), 2, 16) := by kernel_rfl

theorem irows_one (l : List Int) : ∀ r ∈ irows l, r.length = 1 ∧ ∀ u ∈ r, u.oneCell' = true := by
  intro r hr
  simp only [irows, List.mem_map] at hr
  obtain ⟨x, _, rfl⟩ := hr
  exact ⟨rfl, fun u hu => by simp at hu; subst hu; rfl⟩

set_option maxHeartbeats 400000 in
theorem cloneInt_any (D : Nat → Prop) (v : Value) (l : List Int) (w : World) (h : Ints D w v l) (hl : l.length * 8 ≤ 140737488355328) :
    Calls Try.prog 69 #[v] w fun e w' => ∃ v', e = .returned v' ∧ OwnR w' w.heap.size 3 1 v' (irows l) ∧ Below w.heap.size w w' := by
  have hrd := h.rd
  obtain ⟨A, c, rfl, hm, hc⟩ := h
  have hE := fun w a n c => Lib.run_eql_slice_nil (P := Try.prog) w 34 3 a n c 0 0 Try.underlying34
  cases A with
  | none =>
    have h0 : l = [] := by
      rcases Nat.eq_zero_or_pos l.length with h | h
      · exact List.eq_nil_of_length_eq_zero h
      · obtain ⟨b, off, h, _⟩ := hc h; cases h
    subst h0
    go_enter Try.func69, Try.ntmps69
    go_wp2
    go_ret
    exact ⟨_, rfl, OwnR.nil _ _ _ _, Below.refl _ _⟩
  | some ad =>
    go_enter Try.func69, Try.ntmps69
    go_wp2_with (at_builtin; refine wpList_app D [] (irows l) w.heap.size 3 (.int .i64 0) 1 8 rfl _ _ 34 rfl Try.underlying34 Try.infoInt rfl (by decide) (own_empty _ _ _ _ (Nat.le_refl _)) (hrd.below ((Below.refl _ _).alloc (Nat.le_refl _) _)) rfl rfl (irows_one l) ?c2 ?c3 ?c4 ?_; (case c2 => simp [irows]; omega); (case c3 => simp [irows]; omega); (case c4 => simp); intro v' w1 hown hg hat)
    go_ret
    exact ⟨_, rfl, hown, ((Below.refl _ _).alloc (Nat.le_refl _) _).grown hg (by simp) (by simp [Value.ownBlock])⟩
end Go.Proofs.Ytcnckmeelcfeeaa
