/-
  WardenCounts: for every row of spans and every span the law answers true: a Meter has noted as many commands as there were, its Mid is the block in their midst, and a cleared Meter, or none, has nothing. No condition.
-/
import Derived.Test.YtcnckmeelcfeeaaRBase
import Derived.Test.YtcnckmeelcfeeaaH2
namespace Go.Proofs.Ytcnckmeelcfeeaa
open Go.ChangeShapes Go.WideShapes Go.ChangeAt Go.RowKit

set_option maxRecDepth 100000 in
theorem counts_lifted (os : Os) (started : os.Started) (H : Type) (enc : TypeId × Value → H) :
    ReturnsInHanded {} Try.checked os 5 .any (Rows.wardenCountsSpec.pre6 enc Try.prog Try.f5 Rows.wardenCountsRow.domain false) (Rows.wardenCountsSpec.post enc Try.prog Try.f5 false true false false) := by
  refine returnsInHanded_of_change (C := Try.checked) Try.own started (by kernel_rfl) Try.func5
    (ChangeSpec.witness6 (enc := enc) (C := Try.checked) false ⟨#[], #[.slice none 0 0, .agg #[.int .i64 0, .int .i64 0]], []⟩ 8 (by kernel_rfl) (by kernel_rfl) (by kernel_rfl) (by kernel_rfl)) ?_
  intro W base args ds gs before hval0 hW hcnd _
  have hval : ∀ (j : Nat) t v, Try.f5.params[j]? = some t → args[j]? = some v → Value.okWide Try.prog W .any base t v := hval0
  have hW' := hW
  obtain ⟨p, q, hA0, hV, hbf, hfz, hnd⟩ := hW
  have hA : DataW.TrodAll enc Try.prog W 0 (fun _ => true) true Try.f5.params.toList args.toList ds p := hA0
  rw [Try.params5] at hA hval
  obtain ⟨v0, v1, d0, d1, p0, p1, rfl, rfl, rfl, h0, h1⟩ := trodAll_two hA
  obtain ⟨rfl, rfl⟩ := trodVars_none hV
  obtain ⟨ss, hss⟩ := open_spans (hval 0 30 v0 rfl rfl) h0
  obtain ⟨fi, ti, rfl⟩ := open_span (hval 1 36 v1 rfl rfl) h1
  refine (counts_walk _ v0 ss fi ti W hss).mono fun e W' ⟨he, hb⟩ => ?_
  subst he
  exact ⟨_, rfl, law_post (P := Try.prog) (f := Try.f5) (s := Rows.wardenCountsSpec) (ds := [d0, d1]) (tb := 4) Try.laidOut hW' rfl rfl (by kernel_rfl) (by kernel_rfl) Try.underlying4 hb⟩

theorem counts_over : Rows.wardenCountsRow.holds Try.pinned (OpenSpec.ofChange Rows.wardenCountsSpec) :=
  OpenClaim.holds_of_wide 5 Try.f5 rfl rfl rfl rfl rfl rfl rfl ⟨rfl, rfl, rfl, rfl, rfl⟩ rfl rfl rfl rfl rfl (by kernel_rfl) Try.func5 (by kernel_rfl)
    (of_decide_eq_true (by kernel_rfl)) (by unfold Func.isWrapper; first | (rw [if_pos (by decide +kernel)]; kernel_rfl) | (rw [if_neg (by decide +kernel)]; exact ⟨rfl, rfl⟩))
    (fun os started H enc _ => counts_lifted os started H enc)

theorem WardenCounts : Rows.WardenCountsSaid := counts_over
#print axioms WardenCounts
end Go.Proofs.Ytcnckmeelcfeeaa
