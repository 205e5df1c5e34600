/-
  Contracts: rows of spans sorted, without empty ones, joined, cut.
-/
import Derived.Test.YtcnckmeelcfeeaaA1
import Derived.Test.YtcnckmeelcfeeaaLamSp
namespace Go.Proofs.Ytcnckmeelcfeeaa
open Go.RowKit
set_option maxRecDepth 100000

set_option maxHeartbeats 400000 in
theorem cloneSpan_any (D : Nat → Prop) (v : Value) (l : List Sp) (w : World) (h : Rd D w 2 v (srows l)) (hl : l.length * 16 ≤ 140737488355328) :
    Calls Try.prog 96 #[v] w fun e w' => ∃ v', e = .returned v' ∧ OwnR w' w.heap.size 36 2 v' (srows l) ∧ Below w.heap.size w w' := by
  have hrd := h
  obtain ⟨A, c, rfl, hm, hc⟩ := h
  have hE := fun w a n c => Lib.run_eql_slice_nil (P := Try.prog) w 30 36 a n c 0 0 Try.underlying30
  cases A with
  | none =>
    have h0 : srows l = [] := by
      rcases Nat.eq_zero_or_pos (srows l).length with h | h
      · exact List.eq_nil_of_length_eq_zero h
      · obtain ⟨b, off, h, _⟩ := hc h; cases h
    rw [h0]
    go_enter Try.func96, Try.ntmps96
    go_wp2
    go_ret
    exact ⟨_, rfl, OwnR.nil _ _ _ _, Below.refl _ _⟩
  | some ad =>
    have Hl := Lib.hid hl
    go_enter Try.func96, Try.ntmps96
    go_wp2_with (at_builtin; refine wpList_app D [] (srows l) w.heap.size 36 (.agg #[.int .i64 0, .int .i64 0]) 2 16 rfl _ _ 30 rfl Try.underlying30 Try.infoSpan rfl (by decide) (own_empty _ _ _ _ (Nat.le_refl _)) (hrd.below ((Below.refl _ _).alloc (Nat.le_refl _) _)) rfl rfl (srows_one l) ?c2 ?c3 ?c4 ?_; (case c2 => simp [srows_length]; omega); (case c3 => simp [srows_length]; omega); (case c4 => simp); intro v' w1 hown hg hat)
    go_ret
    exact ⟨_, rfl, hown, ((Below.refl _ _).alloc (Nat.le_refl _) _).grown hg (by simp) (by simp [Value.ownBlock])⟩

set_option maxHeartbeats 400000 in
theorem indexEmpty_none (D : Nat → Prop) (v : Value) (l : List Sp) (w : World) (h : Rd D w 2 v (srows l)) (hne : ∀ i, i < l.length → (nth l i).f < (nth l i).t) :
    Calls Try.prog 119 #[v, .func (.func 77) #[] #[]] w fun e w' => e = .returned (.int .i64 (-1)) ∧ Below w.heap.size w w' := by
  obtain ⟨A, c, rfl, hm, hc⟩ := id h
  obtain ⟨_, _, hsp⟩ := h.spans
  simp only [srows_length] at hm hsp ⊢
  clear hc h
  go_enter Try.func119, Try.ntmps119
  go_wp2
  go_loopw [8] (fun i wr => ∃ k : Nat, k ≤ l.length ∧ i = .int .i64 k ∧ Below w.heap.size w wr) (fun i _ => l.length - (intOf i).toNat)
  case atStart => exact ⟨0, Nat.zero_le _, rfl, Below.refl _ _⟩
  case round =>
    obtain ⟨k, hk, rfl, hB⟩ := hrel
    by_cases hlt : k < l.length
    · obtain ⟨b, off, rfl, hD, hb, hcf, hct⟩ := hsp (by omega)
      have q0 := (hB.cell (p := ⟨b, off + k * 2, none⟩) hb).trans (hcf k hlt)
      have q1 := (hB.cell (p := ⟨b, off + k * 2 + 1, none⟩) hb).trans (hct k hlt)
      have hne' := hne k hlt
      clear hcf hct hsp hne
      go_wp2_with (go_at_call 77; refine (empty_any _ _ _).mono ?_; rintro e w1 ⟨rfl, hb1⟩)
      exact ⟨⟨k + 1, by omega, by go_num, bthen hB hb1 hB.size⟩, by simp [intOf]; omega⟩
    · go_wp2
      go_ret
      exact ⟨rfl, hB⟩

set_option maxHeartbeats 400000 in
theorem indexEmpty_one (D : Nat → Prop) (v : Value) (x : Sp) (w : World) (h : Rd D w 2 v (srows [x])) (hne : x.t ≤ x.f) :
    Calls Try.prog 119 #[v, .func (.func 77) #[] #[]] w fun e w' => e = .returned (.int .i64 0) ∧ Below w.heap.size w w' := by
  obtain ⟨A, c, rfl, hm, hc⟩ := id h
  obtain ⟨_, _, hsp⟩ := h.spans
  obtain ⟨b, off, rfl, hD, hb, hcf, hct⟩ := hsp (by simp [srows_length])
  have q0 := hcf 0 (by simp [srows_length])
  have q1 := hct 0 (by simp [srows_length])
  simp only [srows_length, List.length_cons, List.length_nil, Nat.zero_add, Nat.zero_mul, Nat.add_zero, nth, List.getD_cons_zero] at q0 q1 ⊢
  clear hcf hct hsp hc h
  go_enter Try.func119, Try.ntmps119
  go_wp2
  refine wp_loop_rounds 1 ?_
  rw [rounds_succ]
  go_wp2_with (go_at_call 77; refine (empty_any _ _ _).mono ?_; rintro e w1 ⟨rfl, hb1⟩)
  go_ret
  exact ⟨rfl, hb1⟩

-- DeleteFunc where none is empty: the row itself
set_option maxHeartbeats 400000 in
theorem deleteEmpty_none (D : Nat → Prop) (v : Value) (l : List Sp) (w : World) (h : Rd D w 2 v (srows l)) (hne : ∀ i, i < l.length → (nth l i).f < (nth l i).t) :
    Calls Try.prog 100 #[v, .func (.func 77) #[] #[]] w fun e w' => e = .returned v ∧ Below w.heap.size w w' := by
  go_enter Try.func100, Try.ntmps100
  go_wp2_with (go_at_call 119; refine (indexEmpty_none D v l _ h hne).mono ?_; rintro e w1 ⟨rfl, hb1⟩)
  go_ret
  exact ⟨rfl, hb1⟩

set_option maxHeartbeats 400000 in
theorem deleteEmpty_one (base : Nat) (v : Value) (x : Sp) (w : World) (h : OwnR w base 36 2 v (srows [x])) (hne : x.t ≤ x.f) :
    Calls Try.prog 100 #[v, .func (.func 77) #[] #[]] w fun e w' => ∃ v', e = .returned v' ∧ OwnR w' base 36 2 v' [] ∧ v'.ownBlock = v.ownBlock ∧ Mods (fun b => v.ownBlock = some b) w w' := by
  have hrd := h.rd
  have hn : (srows [x]).length = 1 := rfl
  rcases h.1.2 with ⟨_, h0⟩ | ⟨g, cap, cur, hv, hb, hh, h1, h2, h3, h4⟩
  · rw [hn] at h0; cases h0
  rw [hn] at hv h1 h4
  subst hv
  have hg : g < w.heap.size := (Array.getElem?_eq_some_iff.1 hh).1
  go_enter Try.func100, Try.ntmps100
  go_wp2_with (go_at_call 119; refine (indexEmpty_one _ _ x _ hrd hne).mono ?_; rintro e w1 ⟨rfl, hb1⟩)
  have hh1 : w1.heap[g]? = some (.cells cur 36 (0, 0)) := (hb1.block g hg).trans hh
  have Hh1 := Lib.hid hh1
  refine wp_loop_rounds 1 ?_
  rw [rounds_succ]
  go_wp2_with (refine wpList_clear g 0 0 cap cur 36 (.agg #[.int .i64 0, .int .i64 0]) 16 rfl _ 30 rfl Try.underlying30 Try.infoSpan ?z1 rfl Hh1.out ?z2 ?_; (case z1 => intro u hu; simp [Value.cells] at hu; subst hu; rfl); (case z2 => simp [Value.cells, h3]; omega))
  go_ret
  refine ⟨_, rfl, ⟨⟨rfl, .inr ⟨g, cap, _, rfl, hb, setRow_heap _ g cur _ _ _ Hh1.out, Nat.zero_le _, h2, ?_, rfl⟩⟩, by simp⟩, rfl, (Mods.of_below hb1).trans (Mods.setRow (S := fun b => (Value.slice (some ⟨g, 0, none⟩) 1 cap).ownBlock = some b) _ rfl _) (fun _ _ h => h)⟩
  simp [h3, Builtin.zeroCells]; omega

-- the order of Norm: by where spans begin
set_option maxHeartbeats 400000 in
theorem normCmp_any (a b : Sp) (w : World) :
    Calls Try.prog 102 #[sval a, sval b] w fun e w' => e = .returned (.int .i64 (if a.f < b.f then -1 else if a.f > b.f then 1 else 0)) ∧ Below w.heap.size w w' := by
  unfold sval
  go_enter Try.func102, Try.ntmps102
  go_wp2
  all_goals (go_ret; exact ⟨rfl, ((Below.refl _ _).alloc (Nat.le_refl _) _).alloc (by simp) _⟩)

set_option maxHeartbeats 400000 in
theorem normCmp_gt (a b : Sp) (h : b.f < a.f) (w : World) :
    Calls Try.prog 102 #[.agg #[.int .i64 a.f, .int .i64 a.t], .agg #[.int .i64 b.f, .int .i64 b.t]] w fun e w' => e = .returned (.int .i64 1) ∧ Below w.heap.size w w' := by
  refine (normCmp_any a b w).mono fun e w' ⟨he, hb⟩ => ⟨?_, hb⟩
  rw [he, if_neg (by omega), if_pos (by omega)]

-- the insertion sort leaves what rises as it is
set_option maxHeartbeats 1000000 in
theorem insertionSorted (D : Nat → Prop) (v : Value) (l : List Sp) (w : World) (h : Rd D w 2 v (srows l)) (hs : ∀ i, i + 1 < l.length → (nth l i).f < (nth l (i + 1)).f) :
    Calls Try.prog 129 #[v, .int .i64 0, .int .i64 l.length, .func (.func 102) #[] #[]] w fun e w' => e = .returned (.tuple #[]) ∧ Below w.heap.size w w' := by
  obtain ⟨A, c, rfl, hm, hc⟩ := id h
  obtain ⟨_, _, hsp⟩ := h.spans
  simp only [srows_length] at hm hsp ⊢
  clear hc h
  go_enter Try.func129, Try.ntmps129
  go_wp2
  go_loopw [8, 9] (fun i _ wr => ∃ k : Nat, 1 ≤ k ∧ (k ≤ l.length ∨ k = 1) ∧ i = .int .i64 k ∧ Below w.heap.size w wr) (fun i _ _ => l.length - (intOf i).toNat)
  case atStart => exact ⟨1, Nat.le_refl _, by omega, rfl, Below.refl _ _⟩
  case round =>
    obtain ⟨k, hk1, hk, rfl, hB⟩ := hrel
    by_cases hlt : k < l.length
    · obtain ⟨b, off, rfl, hD, hb, hcf, hct⟩ := hsp (by omega)
      have q0 := (hB.cell (p := ⟨b, off + k * 2, none⟩) hb).trans (hcf k hlt)
      have q1 := (hB.cell (p := ⟨b, off + k * 2 + 1, none⟩) hb).trans (hct k hlt)
      have q2 := (hB.cell (p := ⟨b, off + (k - 1) * 2, none⟩) hb).trans (hcf (k - 1) (by omega))
      have q3 := (hB.cell (p := ⟨b, off + (k - 1) * 2 + 1, none⟩) hb).trans (hct (k - 1) (by omega))
      have hs' := hs (k - 1) (by omega)
      rw [show k - 1 + 1 = k by omega] at hs'
      have hk0 : 0 < k := by omega
      clear hcf hct hsp hs
      go_wp2
      refine wp_loop_rounds 1 ?_
      rw [rounds_succ]
      go_wp2
      refine wp_region_still_tail 14 (by kernel_rfl) (by kernel_rfl) ?_
      simp only [List.take_succ_cons, List.take_zero, List.drop_succ_cons, List.drop_zero]
      repeat (refine wpStill_step (fun K hK => ?_); go_simp; (try go_bits); (try (simp (disch := omega) only [if_pos, true_and])); refine hK _ ?_; clear hK K)
      refine wpStill_nil ?_
      change wpList _ _ _ _ _ wr.drew
      go_wp2_with (go_at_call 102; refine (normCmp_gt _ _ hs' _).mono ?_; rintro e w1 ⟨rfl, hb1⟩)
      exact ⟨⟨k + 1, by omega, by omega, by go_num, bthen hB.drew hb1 hB.size⟩, by simp [intOf]; omega⟩
    · go_wp2
      go_end0
      exact ⟨rfl, hB⟩

set_option maxHeartbeats 2000000 in
theorem len_small (n : Nat) (hn : n ≤ 12) (w : World) : Calls Try.prog 99 #[.int .u64 n] w fun e w' => ∃ k : Int, e = .returned (.int .i64 k) ∧ w = w' := by
  have h : n = 0 ∨ n = 1 ∨ n = 2 ∨ n = 3 ∨ n = 4 ∨ n = 5 ∨ n = 6 ∨ n = 7 ∨ n = 8 ∨ n = 9 ∨ n = 10 ∨ n = 11 ∨ n = 12 := by omega
  rcases h with rfl | rfl | rfl | rfl | rfl | rfl | rfl | rfl | rfl | rfl | rfl | rfl | rfl
  all_goals
    go_enter Try.func99, Try.ntmps99
    go_wp2
    go_ret
    exact ⟨_, rfl, rfl⟩

-- SortFunc of at most twelve that rise: as they are
set_option maxHeartbeats 400000 in
theorem sortSorted (D : Nat → Prop) (v : Value) (l : List Sp) (w : World) (h : Rd D w 2 v (srows l)) (hs : ∀ i, i + 1 < l.length → (nth l i).f < (nth l (i + 1)).f) (hl : l.length ≤ 12) :
    Calls Try.prog 101 #[v, .func (.func 102) #[] #[]] w fun e w' => e = .returned (.tuple #[]) ∧ Below w.heap.size w w' := by
  obtain ⟨A, c, hv, hm, hc⟩ := id h
  rw [srows_length] at hv hm
  clear hc
  subst hv
  have hpd : ∀ (k : Int) (W : World), Below w.heap.size w W → Calls Try.prog 120 #[.slice A l.length c, .int .i64 0, .int .i64 l.length, .int .i64 k, .func (.func 102) #[] #[]] W fun e w' => e = .returned (.tuple #[]) ∧ Below W.heap.size W w' := by
    intro k W hW
    go_enter Try.func120, Try.ntmps120
    go_wp2
    refine wp_loop_rounds 1 ?_
    rw [rounds_succ]
    go_wp2_with (go_at_call 129; refine (insertionSorted D _ l _ (h.below hW) hs).mono ?_; rintro e w1 ⟨rfl, hb1⟩)
    exact bodyPost_ret (results_none rfl _ _ _) rfl ⟨rfl, hb1⟩
  go_enter Try.func101, Try.ntmps101
  go_wp2_with (first | (go_at_call 99; refine (len_small _ hl _).mono ?_; rintro e w1 ⟨k, rfl, rfl⟩) | (go_at_call 120; refine (hpd _ _ (Below.refl _ _)).mono ?_; rintro e w1 ⟨rfl, hb1⟩))
  go_end0
  exact ⟨rfl, hb1⟩
end Go.Proofs.Ytcnckmeelcfeeaa
