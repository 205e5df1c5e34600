/-
  Contracts: slices.Insert at the end.
-/
import Derived.Test.YtcnckmeelcfeeaaA1
import Derived.Test.YtcnckmeelcfeeaaLamMap
namespace Go.Proofs.Ytcnckmeelcfeeaa
open Go.RowKit
set_option maxRecDepth 100000

theorem OwnR.cap {w : World} {b e k : Nat} {A : Option Addr} {n c : Nat} {rs : List (List Value)} (h : OwnR w b e k (.slice A n c) rs) : n ≤ c := by
  rcases h.1.2 with ⟨h0, hn⟩ | ⟨g, cap, cur, h0, _, hle, _, _⟩
  · injection h0 with h1 h2 h3; subst h2; exact Nat.zero_le _
  · injection h0 with h1 h2 h3; omega

theorem insertInt_end (D : Nat → Prop) (base : Nat) (v sv : Value) (rs : List (List Value)) (x : Int) (w : World) (h : OwnR w base 3 1 v rs) (hr : Rd D w 1 sv [[.int .i64 x]]) (hl : (rs.length + 1) * 8 ≤ 140737488355328) (hb : base ≤ w.heap.size) :
    Calls Try.prog 94 #[v, .int .i64 rs.length, sv] w fun e w' => ∃ v', e = .returned v' ∧ OwnR w' base 3 1 v' (rs ++ [[.int .i64 x]]) ∧ w.grownBy w' v.ownBlock ∧ (v'.ownBlock = v.ownBlock ∨ v'.ownBlock = some w.heap.size) := by
  obtain ⟨A, c, rfl⟩ := h.slice
  have hcap := h.cap
  have hr' := hr
  obtain ⟨A2, c2, rfl, -, -⟩ := hr'
  have step : ∀ hc : rs.length = c ∨ rs.length < c, Calls Try.prog 94 #[.slice A rs.length c, .int .i64 rs.length, .slice A2 1 c2] w fun e w' => ∃ v', e = .returned v' ∧ OwnR w' base 3 1 v' (rs ++ [[.int .i64 x]]) ∧ w.grownBy w' (Value.slice A rs.length c).ownBlock ∧ (v'.ownBlock = (Value.slice A rs.length c).ownBlock ∨ v'.ownBlock = some w.heap.size) := by
    clear hcap
    rintro (hc | hc)
    · subst hc
      go_enter Try.func94, Try.ntmps94
      go_wp2_with (at_builtin; refine wpList_app D rs [[.int .i64 x]] base 3 (.int .i64 0) 1 8 rfl _ _ 34 rfl Try.underlying34 Try.infoInt rfl (by decide) h hr rfl rfl ?c1 ?c2 ?c3 hb ?_; (case c1 => intro r hr; simp only [List.mem_cons, List.not_mem_nil, or_false] at hr; subst hr; exact one1 _); (case c2 => simp; omega); (case c3 => simp; omega); intro v' w1 hown hg hat)
      go_ret
      exact ⟨_, rfl, hown, hg, hat⟩
    · go_enter Try.func94, Try.ntmps94
      go_wp2_with (at_builtin; refine wpList_app D rs [[.int .i64 x]] base 3 (.int .i64 0) 1 8 rfl _ _ 34 rfl Try.underlying34 Try.infoInt rfl (by decide) h hr rfl rfl ?c1 ?c2 ?c3 hb ?_; (case c1 => intro r hr; simp only [List.mem_cons, List.not_mem_nil, or_false] at hr; subst hr; exact one1 _); (case c2 => simp; omega); (case c3 => simp; omega); intro v' w1 hown hg hat)
      go_ret
      exact ⟨_, rfl, hown, hg, hat⟩
  exact step (Nat.eq_or_lt_of_le hcap)
theorem insertSpan_end (D : Nat → Prop) (base : Nat) (v sv : Value) (rs : List (List Value)) (x : Sp) (w : World) (h : OwnR w base 36 2 v rs) (hr : Rd D w 2 sv [srow x]) (hl : (rs.length + 1) * 16 ≤ 140737488355328) (hb : base ≤ w.heap.size) :
    Calls Try.prog 93 #[v, .int .i64 rs.length, sv] w fun e w' => ∃ v', e = .returned v' ∧ OwnR w' base 36 2 v' (rs ++ [srow x]) ∧ w.grownBy w' v.ownBlock ∧ (v'.ownBlock = v.ownBlock ∨ v'.ownBlock = some w.heap.size) := by
  obtain ⟨A, c, rfl⟩ := h.slice
  have hcap := h.cap
  have hr' := hr
  obtain ⟨A2, c2, rfl, -, -⟩ := hr'
  have step : ∀ hc : rs.length = c ∨ rs.length < c, Calls Try.prog 93 #[.slice A rs.length c, .int .i64 rs.length, .slice A2 1 c2] w fun e w' => ∃ v', e = .returned v' ∧ OwnR w' base 36 2 v' (rs ++ [srow x]) ∧ w.grownBy w' (Value.slice A rs.length c).ownBlock ∧ (v'.ownBlock = (Value.slice A rs.length c).ownBlock ∨ v'.ownBlock = some w.heap.size) := by
    clear hcap
    rintro (hc | hc)
    · subst hc
      go_enter Try.func93, Try.ntmps93
      go_wp2_with (at_builtin; refine wpList_app D rs [srow x] base 36 (.agg #[.int .i64 0, .int .i64 0]) 2 16 rfl _ _ 30 rfl Try.underlying30 Try.infoSpan rfl (by decide) h hr rfl rfl ?c1 ?c2 ?c3 hb ?_; (case c1 => intro r hr; simp only [List.mem_cons, List.not_mem_nil, or_false] at hr; subst hr; exact one2 _ _); (case c2 => simp; omega); (case c3 => simp; omega); intro v' w1 hown hg hat)
      go_ret
      exact ⟨_, rfl, hown, hg, hat⟩
    · go_enter Try.func93, Try.ntmps93
      go_wp2_with (at_builtin; refine wpList_app D rs [srow x] base 36 (.agg #[.int .i64 0, .int .i64 0]) 2 16 rfl _ _ 30 rfl Try.underlying30 Try.infoSpan rfl (by decide) h hr rfl rfl ?c1 ?c2 ?c3 hb ?_; (case c1 => intro r hr; simp only [List.mem_cons, List.not_mem_nil, or_false] at hr; subst hr; exact one2 _ _); (case c2 => simp; omega); (case c3 => simp; omega); intro v' w1 hown hg hat)
      go_ret
      exact ⟨_, rfl, hown, hg, hat⟩
  exact step (Nat.eq_or_lt_of_le hcap)
theorem insertSpan_nil (D : Nat → Prop) (base : Nat) (sv : Value) (x : Sp) (w : World) (hr : Rd D w 2 sv [srow x]) (hb : base ≤ w.heap.size) :
    Calls Try.prog 93 #[.slice none 0 0, .int .i64 0, sv] w fun e w' => ∃ v', e = .returned v' ∧ OwnR w' base 36 2 v' [srow x] ∧ Below w.heap.size w w' := by
  refine (insertSpan_end D base (.slice none 0 0) sv [] x w (OwnR.nil _ _ _ _) hr (by simp) hb).mono ?_
  rintro e w' ⟨v', rfl, h, hg, -⟩
  exact ⟨v', rfl, h, ⟨hg.os, hg.tape, hg.output, hg.size, fun k hk => hg.block k hk (by simp [Value.ownBlock])⟩⟩
theorem insertInt_nil (D : Nat → Prop) (base : Nat) (sv : Value) (x : Int) (w : World) (hr : Rd D w 1 sv [[.int .i64 x]]) (hb : base ≤ w.heap.size) :
    Calls Try.prog 94 #[.slice none 0 0, .int .i64 0, sv] w fun e w' => ∃ v', e = .returned v' ∧ OwnR w' base 3 1 v' [[.int .i64 x]] ∧ Below w.heap.size w w' := by
  refine (insertInt_end D base (.slice none 0 0) sv [] x w (OwnR.nil _ _ _ _) hr (by simp) hb).mono ?_
  rintro e w' ⟨v', rfl, h, hg, -⟩
  exact ⟨v', rfl, h, ⟨hg.os, hg.tape, hg.output, hg.size, fun k hk => hg.block k hk (by simp [Value.ownBlock])⟩⟩
end Go.Proofs.Ytcnckmeelcfeeaa
