/-
  Contracts: lay into a map that has nothing, New.
-/
import Derived.Test.YtcnckmeelcfeeaaA9
import Derived.Test.YtcnckmeelcfeeaaLamKV
import Derived.Deep.RegionHeld3
namespace Go.Proofs.Ytcnckmeelcfeeaa
open Go.RowKit
set_option maxRecDepth 100000


set_option maxHeartbeats 4000000 in
theorem lay_first (D : Nat → Prop) (ab mb : Nat) (bl ep nx : Int) (ov : Value) (id f t : Int) (mv : Value) (l : List Int) (kvs : List (Int × Value)) (w : World) (hab : w.heap[ab]? = some (.cells #[.int .i64 bl, .int .i64 ep, .int .i64 nx, ov, .slice none 0 0, .slice none 0 0, .map (some mb)] 98 (0, 0)))
    (hmb : MapOf w mb kvs) (hid : ∀ p ∈ kvs, p.1 ≠ id) (hft : f < t) (hm : Ints D w mv l) (hl : l.length * 8 ≤ 140737488355328) :
    Calls Try.prog 53 #[.pointer (some ⟨ab, 0, none⟩), .agg #[.int .i64 id, .int .i64 f, .int .i64 t, mv, .slice none 0 0]] w fun e w' => e = .returned (.tuple #[]) ∧ ∃ lv vv mv',
      w'.heap[ab]? = some (.cells #[.int .i64 bl, .int .i64 ep, .int .i64 nx, ov, lv, vv, .map (some mb)] 98 (0, 0)) ∧ OwnR w' w.heap.size 36 2 lv [srow ⟨f, t⟩] ∧ OwnR w' w.heap.size 3 1 vv [[.int .i64 id]] ∧
      MapOf w' mb (kvs ++ [(id, .agg #[.int .i64 id, .int .i64 f, .int .i64 t, mv', .slice none 0 0])]) ∧ OwnR w' w.heap.size 3 1 mv' (irows l) ∧ Mods (fun g => g = ab ∨ g = mb) w w' := by
  have hm' := hm
  obtain ⟨A, c, rfl, -, -⟩ := hm'
  have hne : ab ≠ mb := by
    rintro rfl
    obtain ⟨es, cl, h, -⟩ := hmb
    rw [hab] at h; cases h
  have habl := lt_of_block hab
  have hmbl := hmb.lt
  have c6 : w.cell? ⟨ab, 6, none⟩ = some (.map (some mb)) := by rw [cell_of_row w ab 6 _ _ (0, 0) hab]; rfl
  have Hab := Lib.hid hab; clear hab
  go_enter Try.func53, Try.ntmps53
  go_upto_region 1 with fail
  go_cut [] from 4 to 11 (fun wx => ∃ mv', MapOf wx mb (kvs ++ [(id, .agg #[.int .i64 id, .int .i64 f, .int .i64 t, mv', .slice none 0 0])]) ∧ OwnR wx w.heap.size 3 1 mv' (irows l) ∧ Mods (fun g => g = mb) w wx ∧ wx.heap[w.heap.size]? = some (.cells [.int .i64 id, .int .i64 f, .int .i64 t, .slice A l.length c, .slice none 0 0].toArray 56 (0, 0)))
  case first =>
    go_region_held3 (fun w' => w'.cell? ⟨ab, 6, none⟩ = some (.map (some mb)) ∧ w'.cell? ⟨w.heap.size, 0, none⟩ = some (.int .i64 id) ∧ w'.cell? ⟨w.heap.size, 1, none⟩ = some (.int .i64 f) ∧ w'.cell? ⟨w.heap.size, 2, none⟩ = some (.int .i64 t) ∧ w'.cell? ⟨w.heap.size, 3, none⟩ = some (.slice A l.length c) ∧ w'.cell? ⟨w.heap.size, 4, none⟩ = some (.slice none 0 0))
      (first | (go_keep; done) | (go_split_ands; refine ⟨?_, ?_, ?_, ?_, ?_, ?_⟩ <;> exact (hm2.cell (by omega) (by omega)).trans (by assumption)) | (go_split_ands; refine ⟨?_, ?_, ?_, ?_, ?_, ?_⟩ <;> exact (hb1.cell (by simp <;> omega)).trans (by assumption)))
      (first
        | (go_at_call 55; go_must (refine (own_none D id f t (.slice A l.length c) l _ (hm.below ?b) hl).mono ?_; (case b => (repeat (first | exact Below.refl _ _ | refine below_drewN ?_ _ | refine Below.drew ?_ | refine Below.alloc ?_ (by simp <;> omega) _))); rintro e w1 ⟨mv', rfl, hown, hb1⟩; have hz1 := hb1.size; simp at hz1; have hB1 : Below w.heap.size w w1 := bthen (by (repeat (first | exact Below.refl _ _ | refine below_drewN ?_ _ | refine Below.drew ?_ | refine Below.alloc ?_ (by simp <;> omega) _))) hb1 (by simp)))
        | (obtain ⟨w2, hr, hM2, hm2⟩ := run_put_new (P := Try.prog) w1 96 3 56 mb kvs id (.agg #[.int .i64 id, .int .i64 f, .int .i64 t, mv', .slice none 0 0]) Try.underlying96 Try.underlying3 (hmb.below hB1) hid; rw [hr]; go_simp))
    all_goals (go_wp2_with fail; go_meet)
    all_goals
      refine ⟨mv', hM2, ?_, (Mods.of_below hB1).trans hm2 (fun _ _ h => h), (hm2.block _ (by omega) (by omega)).trans ((hb1.block _ (by simp)).trans (block_new _ _ rfl))⟩
      exact (hown.mods hm2 (fun g hg h => by have := (hown.lt g hg).1; simp at this; omega)).rebase (fun g hg => by have := (hown.lt g hg).1; simp at this; omega)
  case rest =>
    obtain ⟨mv', hM, hown, hmods, hblk⟩ := hcut
    have s0 := cell_block hblk 0 _ rfl
    have s1 := cell_block hblk 1 _ rfl
    have s2 := cell_block hblk 2 _ rfl
    have s3 := cell_block hblk 3 _ rfl
    have s4 := cell_block hblk 4 _ rfl
    have hzc := hmods.size
    have hwc := lt_of_block hblk
    have Hablk : Hid (wc.heap[ab]? = some (.cells #[.int .i64 bl, .int .i64 ep, .int .i64 nx, ov, .slice none 0 0, .slice none 0 0, .map (some mb)] 98 (0, 0))) := (hmods.block ab habl hne).trans Hab.out
    clear hblk
    go_upto_region 2 with fail
    refine wp_region_still_tail 7 (by kernel_rfl) (by kernel_rfl) ?_
    simp only [List.take_succ_cons, List.take_zero, List.drop_succ_cons, List.drop_zero]
    repeat (refine wpStill_step (fun K hK => ?_); go_simp; (try go_bits); (try (simp (disch := omega) only [if_pos, true_and])); refine hK _ ?_; clear hK K)
    refine wpStill_nil ?_
    change wpList _ _ _ _ _ wc.drew
    go_wp2_with (go_at_call 79; go_must (refine (put_first ab 4 98 _ ⟨f, t⟩ id wc.drew Hablk.out rfl rfl hft).mono ?_; rintro e w3 ⟨rfl, lv, vv, h1, h2, h3, h4⟩))
    go_end0
    have hM' : MapOf wc.drew mb (kvs ++ [(id, .agg #[.int .i64 id, .int .i64 f, .int .i64 t, mv', .slice none 0 0])]) := hM
    have hown' := hown.drew
    have hmods' : Mods (fun g => g = mb) w wc.drew := hmods.trans (Mods.of_below (S := fun g => g = mb) (Below.drew (Below.refl _ _))) (fun _ _ h => h)
    refine ⟨rfl, lv, vv, mv', h1, ?_, ?_, hM'.mods h4 (fun h => hne h.symm), ?_, ?_⟩
    · exact h2.rebase (fun g hg => by have := (h2.lt g hg).1; simp at this; omega)
    · exact h3.rebase (fun g hg => by have := (h3.lt g hg).1; simp at this; omega)
    · exact hown'.mods h4 (fun g hg h => by have := (hown.lt g hg).1; have h' : g = ab := h; omega)
    · exact (hmods'.mono (S' := fun g => g = ab ∨ g = mb) (fun _ _ h => .inr h)).trans (h4.mono (S' := fun g => g = ab ∨ g = mb) (fun _ _ h => .inl h)) (fun _ _ h => h)
end Go.Proofs.Ytcnckmeelcfeeaa
