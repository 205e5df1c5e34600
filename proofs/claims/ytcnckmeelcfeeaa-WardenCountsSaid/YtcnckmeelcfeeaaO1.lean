/-
  Contract: own (a shard that shares nothing).
-/
import Derived.Test.YtcnckmeelcfeeaaA9
import Derived.Test.YtcnckmeelcfeeaaLamAt
namespace Go.Proofs.Ytcnckmeelcfeeaa
open Go.RowKit
set_option maxRecDepth 100000

theorem Try.infoOrigin : (Try.prog.info? 102).map (fun i => (i.zero, i.size, i.bytes)) = some (some (.agg #[.int .i64 0, .int .i64 0, .int .i64 0, .slice none 0 0]), 4, 48) := by kernel_rfl
theorem Try.infoShard : (Try.prog.info? 56).map (fun i => (i.zero, i.size, i.bytes)) = some (some (.agg #[.int .i64 0, .int .i64 0, .int .i64 0, .slice none 0 0, .slice none 0 0]), 5, 72) := by kernel_rfl

set_option maxHeartbeats 2000000 in
theorem own_any (D : Nat → Prop) (s : Shd) (mv pv : Value) (w : World) (hs : ShRd D w s mv pv) (hl : s.ms.length ≤ 1000) (hp : s.past.length ≤ 1000) (hpm : ∀ i, i < s.past.length → (nth s.past i).ms.length ≤ 1000) :
    Calls Try.prog 55 #[shVal s mv pv] w fun e w' => ∃ mv' pv', e = .returned (shVal s mv' pv') ∧ ShOw w' w.heap.size 3 102 s mv' pv' ∧ Below w.heap.size w w' := by
  obtain ⟨id, f, t, l, past⟩ := s
  obtain ⟨hm, prs, hpr, hos⟩ := hs
  dsimp only at hm hos hl hp hpm
  have hm' := hm
  obtain ⟨A, c, rfl, -, -⟩ := hm'
  have hpr' := hpr
  obtain ⟨Ap, cp, rfl, -, hpc⟩ := hpr'
  have hpl := hos.1
  rw [hpl] at hpc
  have Hpc := Lib.hid hpc; clear hpc
  have Hos := Lib.hid hos.2; clear hos
  have Hpm := Lib.hid hpm; clear hpm
  unfold shVal
  dsimp only
  rw [hpl] at hpr ⊢
  clear hpr hpl
  go_enter Try.func55, Try.ntmps55
  go_wp2_with (go_at_call 69; go_must (refine (cloneInt_any D (.slice A l.length c) l _ (hm.below ?b) (by omega)).mono ?_; (case b => exact Below.alloc (Below.alloc (Below.refl _ _) (Nat.le_refl _) _) (by simp) _); rintro e w1 ⟨mv', rfl, hown, hb1⟩; have hv := hown.slice; rw [irows_length] at hv; obtain ⟨A1, c1, rfl⟩ := hv; have hz1 := hb1.size; simp at hz1; have k1 : w1.heap[w.heap.size]? = some (.cells [.int .i64 id, .int .i64 f, .int .i64 t, .slice A l.length c, .slice Ap past.length cp].toArray 56 (0, 0)) := (hb1.block _ (by simp; omega)).trans (block_old _ (block_new _ _ rfl)); have k2 : w1.heap[w.heap.size + 1]? = some (.cells [.int .i64 0, .int .i64 0, .int .i64 0, .slice none 0 0, .slice none 0 0].toArray 56 (0, 0)) := (hb1.block _ (by simp)).trans (block_new _ _ (by simp)); have s3 := cell_block k1 3 _ rfl; have s4 := cell_block k1 4 _ rfl; have fs3 := frozen_of_row w1 _ 3 _ _ k1; have fs4 := frozen_of_row w1 _ 4 _ _ k1))
  have S1 := (Mods.setCell (S := fun g => g = w.heap.size) w1 (p := ⟨w.heap.size, 3, none⟩) rfl (.slice A1 l.length c1)).trans (Mods.setCell (S := fun g => g = w.heap.size) _ (p := ⟨w.heap.size, 4, none⟩) rfl (.slice none 0 0)) (fun _ _ h => h)
  have hB := ((Below.refl w.heap.size w).alloc (Nat.le_refl _) (.cells [.int .i64 id, .int .i64 f, .int .i64 t, .slice A l.length c, .slice Ap past.length cp].toArray 56)).alloc (by simp) (.cells [.int .i64 0, .int .i64 0, .int .i64 0, .slice none 0 0, .slice none 0 0].toArray 56)
  have hB1 : Below w.heap.size w w1 := bthen hB hb1 (by simp; omega)
  have hB2 : Below w.heap.size w ((w1.setCell ⟨w.heap.size, 3, none⟩ (.slice A1 l.length c1)).setCell ⟨w.heap.size, 4, none⟩ (.slice none 0 0)) := hB1.trans (S1.below (by omega) (fun x _ h => by omega))
  have K1 : ((w1.setCell ⟨w.heap.size, 3, none⟩ (.slice A1 l.length c1)).setCell ⟨w.heap.size, 4, none⟩ (.slice none 0 0)).heap[w.heap.size]? = some (.cells [.int .i64 id, .int .i64 f, .int .i64 t, .slice A1 l.length c1, .slice none 0 0].toArray 56 (0, 0)) := heap_setCell_same _ _ 4 _ _ _ (heap_setCell_same _ _ 3 _ _ _ k1)
  have K2 : ((w1.setCell ⟨w.heap.size, 3, none⟩ (.slice A1 l.length c1)).setCell ⟨w.heap.size, 4, none⟩ (.slice none 0 0)).heap[w.heap.size + 1]? = some (.cells [.int .i64 0, .int .i64 0, .int .i64 0, .slice none 0 0, .slice none 0 0].toArray 56 (0, 0)) := (S1.block _ (by omega) (by omega)).trans k2
  have O2 : OwnR ((w1.setCell ⟨w.heap.size, 3, none⟩ (.slice A1 l.length c1)).setCell ⟨w.heap.size, 4, none⟩ (.slice none 0 0)) (w.heap.size + 2) 3 1 (.slice A1 l.length c1) (irows l) :=
    (hown.mods S1 (fun g hg h => by have := (hown.lt g hg).1; simp at this; omega)).rebase (fun g hg => by have := (hown.lt g hg).1; simp at this; omega)
  generalize ((w1.setCell ⟨w.heap.size, 3, none⟩ (.slice A1 l.length c1)).setCell ⟨w.heap.size, 4, none⟩ (.slice none 0 0)) = w2 at *
  clear S1 hB hB1 hb1 hown hz1 k1 k2 s3 s4 fs3 fs4 w1
  go_loopw [5, 15] (fun _ i wr => ∃ (k : Nat) (pvk : Value) (rsk : List (List Value)), k ≤ past.length ∧ i = .int .i64 k ∧ wr.heap[w.heap.size]? = some (.cells [.int .i64 id, .int .i64 f, .int .i64 t, .slice A1 l.length c1, pvk].toArray 56 (0, 0)) ∧ wr.heap[w.heap.size + 1]? = some (.cells [.int .i64 0, .int .i64 0, .int .i64 0, .slice none 0 0, .slice none 0 0].toArray 56 (0, 0)) ∧ OwnR wr (w.heap.size + 2) 3 1 (.slice A1 l.length c1) (irows l) ∧ OwnR wr (w.heap.size + 2) 102 4 pvk rsk ∧ OrgOws wr (w.heap.size + 2) 3 (past.take k) rsk ∧ Below w.heap.size w wr) (fun _ i _ => past.length - (intOf i).toNat)
  case atStart => exact ⟨0, _, [], Nat.zero_le _, rfl, K1, K2, O2, OwnR.nil _ _ _ _, OrgOws.nil _ _ _, hB2⟩
  case round =>
    obtain ⟨k, pvk, rsk, hk, rfl, k1, k2, hown, hop, horg, hB⟩ := hrel
    clear K1 K2 O2 hB2
    obtain ⟨wo, hwo⟩ : ∃ wo : World, wo = wr := ⟨_, rfl⟩
    subst hwo
    have s4 := cell_block k1 4 _ rfl
    have fs4 := frozen_of_row wo _ 4 _ _ k1
    by_cases hlt : k < past.length
    · obtain ⟨b, off, rfl, hDb, hbw, hcell⟩ := Hpc.out (by omega)
      obtain ⟨mvk, hrow, hmk⟩ := Hos.out k hlt
      have hpmk := Hpm.out k hlt
      have HT := Lib.hid (take_nth hlt)
      generalize nth past k = o at *
      obtain ⟨oi, of, ot, oms⟩ := o
      dsimp only at hrow hmk hpmk
      have hmk' := hmk
      obtain ⟨Am, cm, rfl, -, -⟩ := hmk'
      have hc := (hcell k hlt).2
      rw [hrow] at hc
      have q0 : wo.cell? ⟨b, off + k * 4, none⟩ = some (.int .i64 oi) := (hB.cell (p := ⟨b, off + k * 4, none⟩) hbw).trans (hc 0 (by omega))
      have q1 : wo.cell? ⟨b, off + k * 4 + 1, none⟩ = some (.int .i64 of) := (hB.cell (p := ⟨b, off + k * 4 + 1, none⟩) hbw).trans (hc 1 (by omega))
      have q2 : wo.cell? ⟨b, off + k * 4 + 2, none⟩ = some (.int .i64 ot) := (hB.cell (p := ⟨b, off + k * 4 + 2, none⟩) hbw).trans (hc 2 (by omega))
      have q3 : wo.cell? ⟨b, off + k * 4 + 3, none⟩ = some (.slice Am oms.length cm) := (hB.cell (p := ⟨b, off + k * 4 + 3, none⟩) hbw).trans (hc 3 (by omega))
      clear hc hcell hrow
      have hpv := hop.slice
      obtain ⟨Apk, cpk, rfl⟩ := hpv
      have hrk : rsk.length ≤ 1000 := by have h1 := horg.1; rw [List.length_take] at h1; omega
      have hwz : w.heap.size + 1 < wo.heap.size := lt_of_block k2
      have HK1 := Lib.hid k1; have HK2 := Lib.hid k2; have HOWN := Lib.hid hown; have HOP := Lib.hid hop; have HORG := Lib.hid horg; have HB := Lib.hid hB
      clear k1 k2 hown hop horg hB
      go_wp2_with fail
      refine (cloneInt_any D (.slice Am oms.length cm) oms _ (hmk.frame ?hs ?hf) (by omega)).mono ?_
      case hs => exact Nat.le_trans HB.out.size (by simp)
      case hf => exact fun g _ hg => (Below.heap_alloc wo _ g (Nat.lt_of_lt_of_le hg HB.out.size)).trans (HB.out.block g hg)
      rintro e w3 ⟨mv3, rfl, hown3, hb3⟩
      have hv := hown3.slice; rw [irows_length] at hv; obtain ⟨A3, c3, rfl⟩ := hv
      have hz3 := hb3.size; simp at hz3
      have j1 : w3.heap[w.heap.size]? = _ := (hb3.block _ (by simp; omega)).trans (block_old _ HK1.out)
      have j3 : w3.heap[wo.heap.size]? = some (.cells [.int .i64 oi, .int .i64 of, .int .i64 ot, .slice Am oms.length cm].toArray 102 (0, 0)) := (hb3.block _ (by simp)).trans (block_new wo _ rfl)
      have s4' := cell_block j1 4 _ rfl; have fs4' := frozen_of_row w3 _ 4 _ _ j1; have b0 := cell_block j3 0 _ rfl; have b1 := cell_block j3 1 _ rfl; have b2 := cell_block j3 2 _ rfl; have b3 := cell_block j3 3 _ rfl; have fb3 := frozen_of_row w3 _ 3 _ _ j3
      have hB3 : Below wo.heap.size wo w3 := ((Below.refl _ _).alloc (Nat.le_refl _) _).trans (hb3.mono (by simp))
      have HB3 := Lib.hid hB3; have HOWN3 := Lib.hid hown3; have HJ1 := Lib.hid j1; have HJ3 := Lib.hid j3; clear j1 j3 hown3 hb3 hB3
      have M3 : Hid (Mods (fun g => g = wo.heap.size) w3 (w3.setCell ⟨wo.heap.size, 3, none⟩ (.slice A3 oms.length c3))) := Mods.setCell (S := fun g => g = wo.heap.size) w3 (p := ⟨wo.heap.size, 3, none⟩) rfl _
      have hop3 : Hid (OwnR (w3.setCell ⟨wo.heap.size, 3, none⟩ (.slice A3 oms.length c3)) (w.heap.size + 2) 102 4 (.slice Apk rsk.length cpk) rsk) := (HOP.out.below HB3.out).mods M3.out (fun g hg h => by have := (HOP.out.lt g hg).2; omega)
      go_wp2_with (at_builtin; refine wpList_push (w.heap.size + 2) 102 (.agg #[.int .i64 0, .int .i64 0, .int .i64 0, .slice none 0 0]) 4 48 54 [.int .i64 oi, .int .i64 of, .int .i64 ot, .slice A3 oms.length c3] rsk (.slice Apk rsk.length cpk) Try.underlying54 Try.infoOrigin hop3.out ?xa (by omega) ?xb _ _ rfl rfl rfl (by decide) (by decide) rfl rfl (by simp) ?_; (case xa => exact ⟨rfl, by intro u hu; simp at hu; rcases hu with rfl | rfl | rfl | rfl <;> rfl⟩); (case xb => simp; omega); intro v4 w4 hown4 hg4 hat4; have hv4 := hown4.slice; rw [List.length_append, List.length_singleton] at hv4; obtain ⟨A4, c4, rfl⟩ := hv4; have k4 := grown_block hg4 (blk_ne HJ1.out (p := ⟨wo.heap.size, 3, none⟩) (by simp; omega) (.slice A3 oms.length c3)) (fun g hg h => by have := (hop3.out.lt g hg).1; omega); have s5 := cell_block k4 4 _ rfl; have fs5 := frozen_of_row w4 _ 4 _ _ k4; have HK4 := Lib.hid k4; have HG4 := Lib.hid hg4; have HO4 := Lib.hid hown4; clear k4 hg4 hown4)
      have M4 : Mods (fun g => g = wo.heap.size ∨ some g = (Value.slice Apk rsk.length cpk).ownBlock ∨ g = w.heap.size) w3 (w4.setCell ⟨w.heap.size, 4, none⟩ (.slice A4 (rsk.length + 1) c4)) :=
        ((M3.out.mono (fun _ _ h => .inl h)).trans ((Mods.of_grown HG4.out).mono (fun _ _ h => .inr (.inl h))) (fun _ _ h => h)).trans (Mods.setCell (S := fun g => g = wo.heap.size ∨ some g = (Value.slice Apk rsk.length cpk).ownBlock ∨ g = w.heap.size) w4 (p := ⟨w.heap.size, 4, none⟩) (.inr (.inr rfl)) _) (fun _ _ h => h)
      have M5 : Mods (fun g => some g = (Value.slice Apk rsk.length cpk).ownBlock ∨ g = w.heap.size) wo (w4.setCell ⟨w.heap.size, 4, none⟩ (.slice A4 (rsk.length + 1) c4)) :=
        (Mods.of_below HB3.out).trans M4 (fun x hx h => by rcases h with h | h | h; omega; exact .inl h; exact .inr h)
      go_roundw
      case rel =>
        refine ⟨k + 1, _, _, by omega, by go_num, heap_setCell_same _ _ 4 _ _ _ HK4.out, (M5.block _ (by omega) ?_).trans HK2.out, HOWN.out.kept2 M5 HOP.out (by decide) ?_, HO4.out.mods (Mods.setCell (S := fun g => g = w.heap.size) w4 (p := ⟨w.heap.size, 4, none⟩) rfl _) ?_, ?_, HB.out.trans (M5.below HB.out.size ?_)⟩
        · rintro (h | h)
          · have := (HOP.out.lt _ h.symm).1; omega
          · omega
        · rintro g (h | h)
          · exact .inr h
          · exact .inl (by omega)
        · intro g hg h
          have := (HO4.out.lt g hg).1; omega
        · rw [show past.take (k + 1) = _ from HT.out]
          refine OrgOws.snoc (HORG.out.of (fun mv l h => h.kept2 M5 HOP.out (by decide) ?_)) ⟨_, rfl, (HOWN3.out.mods M4 ?_).rebase ?_⟩
          · rintro g (h | h)
            · exact .inr h
            · exact .inl (by omega)
          · intro g hg h
            have h1 := (HOWN3.out.lt g hg).1
            simp at h1
            rcases h with h | h | h
            · omega
            · have := (HOP.out.lt g h.symm).2; omega
            · omega
          · intro g hg
            have h1 := (HOWN3.out.lt g hg).1
            simp at h1; omega
        · rintro x hx (h | h)
          · have := (HOP.out.lt _ h.symm).1; omega
          · omega
      case measure => simp [intOf]; omega
    · obtain rfl : k = past.length := by omega
      rw [List.take_length] at horg
      have hpv := hop.slice
      rw [horg.1] at hpv
      obtain ⟨A5, c5, rfl⟩ := hpv
      have s0 := cell_block k1 0 _ rfl
      have s1 := cell_block k1 1 _ rfl
      have s2 := cell_block k1 2 _ rfl
      have s3 := cell_block k1 3 _ rfl
      have z0 := cell_block k2 0 _ rfl; have z1 := cell_block k2 1 _ rfl; have z2 := cell_block k2 2 _ rfl; have z3 := cell_block k2 3 _ rfl; have z4 := cell_block k2 4 _ rfl
      have fz0 := frozen_of_row wo _ 0 _ _ k2; have fz1 := frozen_of_row wo _ 1 _ _ k2; have fz2 := frozen_of_row wo _ 2 _ _ k2; have fz3 := frozen_of_row wo _ 3 _ _ k2; have fz4 := frozen_of_row wo _ 4 _ _ k2
      have HK2 := Lib.hid k2
      clear k1 k2
      go_wp2
      have S1 := Mods.setCell (S := fun g => g = w.heap.size + 1) wo (p := ⟨w.heap.size + 1, 0, none⟩) rfl (.int .i64 id)
      have S2 := S1.trans (Mods.setCell (S := fun g => g = w.heap.size + 1) _ (p := ⟨w.heap.size + 1, 1, none⟩) rfl (.int .i64 f)) (fun _ _ h => h)
      have S3 := S2.trans (Mods.setCell (S := fun g => g = w.heap.size + 1) _ (p := ⟨w.heap.size + 1, 2, none⟩) rfl (.int .i64 t)) (fun _ _ h => h)
      have S4 := S3.trans (Mods.setCell (S := fun g => g = w.heap.size + 1) _ (p := ⟨w.heap.size + 1, 3, none⟩) rfl (.slice A1 l.length c1)) (fun _ _ h => h)
      have S5 := S4.trans (Mods.setCell (S := fun g => g = w.heap.size + 1) _ (p := ⟨w.heap.size + 1, 4, none⟩) rfl (.slice A5 past.length c5)) (fun _ _ h => h)
      refine bodyPost_ret (results_cell_row rfl _ _ (w.heap.size + 1) 56 #[.int .i64 id, .int .i64 f, .int .i64 t, .slice A1 l.length c1, .slice A5 past.length c5] (0, 0) _ rfl ?blk Try.underlying56 rfl (by kernel_rfl)) rfl ⟨.slice A1 l.length c1, .slice A5 past.length c5, rfl, ⟨?o1, rsk, ?o2, ?o3⟩, hB.trans (S5.below hB.size (fun x _ h => by omega))⟩
      case o1 => exact (hown.mods S5 (fun g hg h => by have := (hown.lt g hg).1; omega)).rebase (fun g hg => by have := (hown.lt g hg).1; omega)
      case o2 => exact (hop.mods S5 (fun g hg h => by have := (hop.lt g hg).1; omega)).rebase (fun g hg => by have := (hop.lt g hg).1; omega)
      case o3 => exact horg.of (fun mv l h => (h.mods S5 (fun g hg h1 => by have := (h.lt g hg).1; omega)).rebase (fun g hg => by have := (h.lt g hg).1; omega))
      case blk => exact heap_setCell_same _ _ 4 _ _ _ (heap_setCell_same _ _ 3 _ _ _ (heap_setCell_same _ _ 2 _ _ _ (heap_setCell_same _ _ 1 _ _ _ (heap_setCell_same _ _ 0 _ _ _ HK2.out))))

theorem own_agg (D : Nat → Prop) (s : Shd) (mv pv : Value) (w : World) (hs : ShRd D w s mv pv) (hl : s.ms.length ≤ 1000) (hp : s.past.length ≤ 1000) (hpm : ∀ i, i < s.past.length → (nth s.past i).ms.length ≤ 1000) :
    Calls Try.prog 55 #[.agg #[.int .i64 s.id, .int .i64 s.f, .int .i64 s.t, mv, pv]] w fun e w' => ∃ M mc L pc, e = .returned (.agg #[.int .i64 s.id, .int .i64 s.f, .int .i64 s.t, .slice M s.ms.length mc, .slice L s.past.length pc]) ∧ ShOw w' w.heap.size 3 102 s (.slice M s.ms.length mc) (.slice L s.past.length pc) ∧ Below w.heap.size w w' :=
  (own_any D s mv pv w hs hl hp hpm).mono fun e w' ⟨mv', pv', he, h, hb⟩ => by
    have h' := h
    obtain ⟨o1, prs, o2, o3⟩ := h'
    obtain ⟨M, mc, hM⟩ := o1.slice
    obtain ⟨L, pc, hL⟩ := o2.slice
    rw [irows_length] at hM
    rw [o3.1] at hL
    subst hM hL
    exact ⟨M, mc, L, pc, he, h, hb⟩
end Go.Proofs.Ytcnckmeelcfeeaa
