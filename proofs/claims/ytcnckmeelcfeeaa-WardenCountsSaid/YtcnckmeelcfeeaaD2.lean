/-
  Contract: Decide on the document's example.
-/
import Derived.Test.YtcnckmeelcfeeaaA16
import Derived.Test.YtcnckmeelcfeeaaA18
import Derived.Test.YtcnckmeelcfeeaaA13
namespace Go.Proofs.Ytcnckmeelcfeeaa
open Go.RowKit
set_option maxRecDepth 100000

theorem keepc {W w1 : World} (hb : Below W.heap.size W w1) {b o : Nat} {v : Value} (h : W.cell? ⟨b, o, none⟩ = some v) : w1.cell? ⟨b, o, none⟩ = some v := (hb.cell (lt_of_cell h)).trans h

set_option maxHeartbeats 2000000 in
theorem decide_lives (D : Nat → Prop) (ab mb : Nat) (lv vv mv lsv : Value) (ms : List Int) (w : World)
    (hab : w.heap[ab]? = some (.cells #[.int .i64 8, .int .i64 1, .int .i64 2, .slice none 0 0, lv, vv, .map (some mb)] 98 (0, 0)))
    (hL : Rd D w 2 lv [srow ⟨0, 8⟩]) (hV : Rd D w 1 vv [[.int .i64 1]]) (hm : MapOf w mb [(1, .agg #[.int .i64 1, .int .i64 0, .int .i64 8, mv, .slice none 0 0])]) (hmv : Ints D w mv ms) (hms : ms.length ≤ 1000)
    (hls : Rd D w 4 lsv ([(⟨1, 12, 0, 3⟩ : Ld)].map ldRow)) :
    Calls Try.prog 13 #[.pointer (some ⟨ab, 0, none⟩), .agg #[.int .i64 10, .int .i64 0, .int .i64 0, .int .i64 0, .int .i64 9], lsv, .slice none 0 0] w fun e w' =>
      e = .returned (.tuple #[.agg #[.int .i64 1, .int .i64 1, .int .i64 0, .int .i64 3, .int .i64 0, .int .i64 0], .bool true]) ∧ Below w.heap.size w w' := by
  have c1 : w.cell? ⟨ab, 1, none⟩ = some (.int .i64 1) := by rw [cell_of_row w ab 1 _ _ (0, 0) hab]; rfl
  have c3 : w.cell? ⟨ab, 3, none⟩ = some (.slice none 0 0) := by rw [cell_of_row w ab 3 _ _ (0, 0) hab]; rfl
  have habl := lt_of_block hab
  obtain ⟨Al, cl, rfl⟩ : ∃ A c, lsv = .slice A 1 c := by obtain ⟨A, c, e, -⟩ := hls; exact ⟨A, c, e⟩
  have Hab := Lib.hid hab; have HL := Lib.hid hL; have HV := Lib.hid hV; have HM := Lib.hid hm; have HMV := Lib.hid hmv; have HLS := Lib.hid hls
  clear hab hL hV hm hmv hls
  have hmay : may 10 0 0 0 9 = true := by decide
  go_enter Try.func13, Try.ntmps13
  go_upto_region 1 with fail
  go_cut [36] from 17 to 69 (fun t wx => t = .bool false ∧ Below w.heap.size w wx ∧ wx.heap[w.heap.size]? = some (.cells [.int .i64 10, .int .i64 0, .int .i64 0, .int .i64 0, .int .i64 9].toArray 23 (0, 0)) ∧ wx.heap[w.heap.size + 1]? = some (.cells [.int .i64 0, .int .i64 0, .int .i64 0, .int .i64 0, .int .i64 0, .int .i64 0].toArray 25 (0, 0)))
  case first =>
    go_region_held3 (fun w' => w'.cell? ⟨ab, 1, none⟩ = some (.int .i64 1) ∧ w'.cell? ⟨ab, 3, none⟩ = some (.slice none 0 0) ∧ w'.cell? ⟨w.heap.size, 0, none⟩ = some (.int .i64 10) ∧ w'.cell? ⟨w.heap.size, 1, none⟩ = some (.int .i64 0) ∧ w'.cell? ⟨w.heap.size, 2, none⟩ = some (.int .i64 0) ∧ w'.cell? ⟨w.heap.size, 3, none⟩ = some (.int .i64 0) ∧ w'.cell? ⟨w.heap.size, 4, none⟩ = some (.int .i64 9))
      (first | (go_keep; done) | (go_split_ands; refine ⟨?_, ?_, ?_, ?_, ?_, ?_, ?_⟩ <;> exact keepc hb2 (by assumption)) | (go_split_ands; refine ⟨?_, ?_, ?_, ?_, ?_, ?_, ?_⟩ <;> exact keepc hb1 (by assumption)))
      (first
        | (go_at_call 14; go_must (refine (may_any 10 0 0 0 9 _).mono ?_; rintro e w1 ⟨he, hb1⟩; rw [hmay] at he; subst he))
        | (go_at_call 44; go_must (refine (open_at (fun _ => True) ab (.slice none 0 0) [] _ ?ha (Ints.nil _ _) (by simp)).mono ?_; (case ha => go_split_ands; assumption); rintro e w2 ⟨v2, rfl, hown2, hb2⟩; have hv2 := hown2.slice; obtain ⟨A2, c2, rfl⟩ := hv2))
        | (go_at_call 43; go_must (refine (epoch_at ab 1 _ ?hb).mono ?_; (case hb => go_split_ands; assumption); rintro e w3 ⟨rfl, rfl⟩)))
    all_goals (go_wp2_with fail; go_meet)
    have hB1 : Below w.heap.size w w1 := Below.trans (by (repeat (first | exact Below.refl _ _ | refine below_drewN ?_ _ | refine Below.drew ?_ | refine Below.alloc ?_ (by simp <;> omega) _))) (hb1.mono (by simp <;> omega))
    have e0 : w1.heap[w.heap.size]? = some (.cells [.int .i64 10, .int .i64 0, .int .i64 0, .int .i64 0, .int .i64 9].toArray 23 (0, 0)) := (hb1.block _ (by simp <;> omega)).trans (block_old _ (block_new w _ rfl))
    have e1 : w1.heap[w.heap.size + 1]? = some (.cells [.int .i64 0, .int .i64 0, .int .i64 0, .int .i64 0, .int .i64 0, .int .i64 0].toArray 25 (0, 0)) := (hb1.block _ (by simp)).trans (block_new (w.alloc _) _ (by simp))
    exact ⟨rfl, bthen hB1 hb2 hB1.size, (hb2.block _ (lt_of_block e0)).trans e0, (hb2.block _ (lt_of_block e1)).trans e1⟩
  case rest =>
    obtain ⟨rfl, hB, k0, k1⟩ := hcut
    have s0 := cell_block k0 0 _ rfl
    have s1 := cell_block k0 1 _ rfl
    have s2 := cell_block k0 2 _ rfl
    have s3 := cell_block k0 3 _ rfl
    have s4 := cell_block k0 4 _ rfl
    clear c1 c3
    have Hb := Lib.hid hB; have HK1 := Lib.hid k1
    clear hB k0 k1
    go_upto_region 3 with fail
    go_cut [10] from 38 to 69 (fun p wx => ∃ vb M mc L pc R rc, p = .pointer (some ⟨vb, 0, none⟩) ∧ wx.heap[vb]? = some (.cells [.slice R 1 rc, .int .i64 10, .int .i64 0, .int .i64 0, .int .i64 0, .int .i64 9, .slice Al 1 cl, .slice none 0 0].toArray 86 (0, 0)) ∧
      OwnR wx 0 56 5 (.slice R 1 rc) [shRow ⟨1, 0, 8, M, ms.length, mc, L, 0, pc⟩] ∧ Below w.heap.size w wx ∧ wx.heap[w.heap.size + 1]? = some (.cells [.int .i64 0, .int .i64 0, .int .i64 0, .int .i64 0, .int .i64 0, .int .i64 0].toArray 25 (0, 0)))
    case first =>
      go_region_held3 (fun w' => w'.cell? ⟨w.heap.size, 0, none⟩ = some (.int .i64 10) ∧ w'.cell? ⟨w.heap.size, 1, none⟩ = some (.int .i64 0) ∧ w'.cell? ⟨w.heap.size, 2, none⟩ = some (.int .i64 0) ∧ w'.cell? ⟨w.heap.size, 3, none⟩ = some (.int .i64 0) ∧ w'.cell? ⟨w.heap.size, 4, none⟩ = some (.int .i64 9))
        (first | (go_keep; done) | (go_split_ands; refine ⟨?_, ?_, ?_, ?_, ?_⟩ <;> exact keepc hb3 (by assumption)) | (go_split_ands; refine ⟨?_, ?_, ?_, ?_, ?_⟩ <;> exact Lib.cell?_alloc_some _ (by assumption)))
        (first
          | (go_at_call 23; have hab' : wc.drew.heap[ab]? = some (.cells [.int .i64 8, .int .i64 1, .int .i64 2, .slice none 0 0, lv, vv, .map (some mb)].toArray 98 (0, 0)) := (Hb.out.drew.block _ habl).trans Hab.out; go_must (refine (shards_ents D D D ab mb lv vv [(⟨0, 8⟩, 1)] [(1, .agg #[.int .i64 1, .int .i64 0, .int .i64 8, mv, .slice none 0 0])] wc.drew [⟨((⟨0, 8⟩, 1), ⟨1, 0, 8, ms, []⟩), rfl, ⟨mv, .slice none 0 0, by simp [shVal], ⟨(HMV.out.below Hb.out.drew), [], Rd.nil _ _ _, OrgRds.nil _ _⟩⟩, ⟨hms, by simp, by simp⟩⟩] rfl ?c4 ?c5 ?c6 ?hL ?hV ?hM (by simp)).mono ?_; (case c4 => exact cell_block hab' 4 _ rfl); (case c5 => exact cell_block hab' 5 _ rfl); (case c6 => exact cell_block hab' 6 _ rfl); (case hL => exact HL.out.below Hb.out.drew); (case hV => exact HV.out.below Hb.out.drew); (case hM => exact HM.out.below Hb.out.drew); rintro e w3 ⟨sv, rs, rfl, hown3, hrow3, hb3⟩; have hlen : rs.length = 1 := hrow3.1; have hv3 := hown3.slice; rw [hlen] at hv3; obtain ⟨A3, c3, rfl⟩ := hv3; have HLEN := Lib.hid hlen; clear hlen)))
      all_goals (go_wp2_with fail; go_meet)
      have hB3 : Below w.heap.size w w3 := Hb.out.drew.trans (hb3.mono Hb.out.drew.size)
      have hK3 : w3.heap[w.heap.size + 1]? = some (.cells [.int .i64 0, .int .i64 0, .int .i64 0, .int .i64 0, .int .i64 0, .int .i64 0].toArray 25 (0, 0)) := (hb3.block _ (lt_of_block HK1.out)).trans HK1.out
      obtain ⟨r, rfl⟩ : ∃ r, rs = [r] := List.length_eq_one_iff.1 HLEN.out
      obtain ⟨mv3, pv3, hr3, o1, prs, o2, o3⟩ := hrow3.2 0 Nat.zero_lt_one
      obtain ⟨M, mc, rfl⟩ := o1.slice
      obtain ⟨L, pc, rfl⟩ := o2.slice
      have hr4 : r = shRow ⟨1, 0, 8, M, ms.length, mc, L, 0, pc⟩ := by
        have h5 := o3.1
        simp only [nth, List.getD_cons_zero] at hr3 h5
        rw [hr3, irows_length]
        simp only [shCells, shRow, h5]; rfl
      rw [hr4] at hown3
      exact ⟨_, M, mc, L, pc, A3, c3, rfl, block_new _ _ rfl, (hown3.rebase (fun _ _ => Nat.zero_le _)).alloc _, hB3.alloc hB3.size _, block_old _ hK3⟩
    case rest =>
      obtain ⟨vb, M, mc, L, pc, R, rc, rfl, kv, hrow, hB, k1⟩ := hcut
      have v0 := cell_block kv 0 _ rfl
      have v1 := cell_block kv 1 _ rfl
      have v3 := cell_block kv 3 _ rfl
      have v4 := cell_block kv 4 _ rfl
      have v6 := cell_block kv 6 _ rfl
      have hvb := lt_of_block kv
      have HB := Lib.hid hB; have HR := Lib.hid hrow.rd; have HKV := Lib.hid kv
      clear hB hrow kv s0 s1 s2 s3 s4
      go_wp2_with fail
      refine (mute_off vb _ v4).mono ?_
      rintro e w4 ⟨rfl, hb4⟩
      have hB4 : Below w.heap.size w w4 := HB.out.trans (hb4.mono HB.out.size)
      have k4 := (hb4.block _ hvb).trans HKV.out
      have z4 := (hb4.block _ (lt_of_block k1)).trans k1
      have v0' := cell_block k4 0 _ rfl
      have v3' := cell_block k4 3 _ rfl
      have hr4 := HR.out.below hb4
      have HB4 := Lib.hid hB4; have HK4 := Lib.hid k4; have HZ4 := Lib.hid z4; have HR4 := Lib.hid hr4
      clear hB4 k4 z4 hr4 v0 v1 v3 v4 v6 hb4 k1
      unfold noChange
      go_wp2_with fail
      have hz4 : (w4.alloc (.cells [.int .i64 0, .int .i64 0, .int .i64 0, .int .i64 0, .int .i64 0, .int .i64 0].toArray 25)).heap.size = w4.heap.size + 1 := by simp
      have hB5 := HB4.out.alloc HB4.out.size (.cells [.int .i64 0, .int .i64 0, .int .i64 0, .int .i64 0, .int .i64 0, .int .i64 0].toArray 25)
      have k5 := block_old (.cells [.int .i64 0, .int .i64 0, .int .i64 0, .int .i64 0, .int .i64 0, .int .i64 0].toArray 25) HK4.out
      have z5 := block_old (.cells [.int .i64 0, .int .i64 0, .int .i64 0, .int .i64 0, .int .i64 0, .int .i64 0].toArray 25) HZ4.out
      have hr5 := HR4.out.below ((Below.refl w4.heap.size w4).alloc (Nat.le_refl _) (.cells [.int .i64 0, .int .i64 0, .int .i64 0, .int .i64 0, .int .i64 0, .int .i64 0].toArray 25))
      change Calls _ _ _ (w4.alloc (.cells [.int .i64 0, .int .i64 0, .int .i64 0, .int .i64 0, .int .i64 0, .int .i64 0].toArray 25)) _
      generalize (w4.alloc (.cells [.int .i64 0, .int .i64 0, .int .i64 0, .int .i64 0, .int .i64 0, .int .i64 0].toArray 25)) = w5 at *
      clear HB4 HK4 HZ4 HR4 v0' v3'
      refine (long_off _ vb _ [⟨1, 0, 8, M, ms.length, mc, L, 0, pc⟩] w5 (cell_block k5 0 _ rfl) (cell_block k5 3 _ rfl) hr5 (by simp)).mono ?_
      rintro e w6 ⟨rfl, hb6⟩
      have hB6 : Below w.heap.size w w6 := hB5.trans (hb6.mono hB5.size)
      have HB6 := Lib.hid hB6
      have HK6 := Lib.hid ((hb6.block _ (lt_of_block k5)).trans k5)
      have HZ6 := Lib.hid ((hb6.block _ (lt_of_block z5)).trans z5)
      have HR6 := Lib.hid (hr5.below hb6)
      clear hB5 k5 z5 hr5 hb6 hB6 hz4
      unfold noChange
      go_wp2_with fail
      have hB7 := HB6.out.alloc HB6.out.size (.cells [.int .i64 0, .int .i64 0, .int .i64 0, .int .i64 0, .int .i64 0, .int .i64 0].toArray 25)
      have k7 := block_old (.cells [.int .i64 0, .int .i64 0, .int .i64 0, .int .i64 0, .int .i64 0, .int .i64 0].toArray 25) HK6.out
      have z7 := block_old (.cells [.int .i64 0, .int .i64 0, .int .i64 0, .int .i64 0, .int .i64 0, .int .i64 0].toArray 25) HZ6.out
      have hr7 := HR6.out.below ((Below.refl w6.heap.size w6).alloc (Nat.le_refl _) (.cells [.int .i64 0, .int .i64 0, .int .i64 0, .int .i64 0, .int .i64 0, .int .i64 0].toArray 25))
      change Calls _ _ _ (w6.alloc (.cells [.int .i64 0, .int .i64 0, .int .i64 0, .int .i64 0, .int .i64 0, .int .i64 0].toArray 25)) _
      generalize (w6.alloc (.cells [.int .i64 0, .int .i64 0, .int .i64 0, .int .i64 0, .int .i64 0, .int .i64 0].toArray 25)) = w7 at *
      clear HB6 HK6 HZ6 HR6
      obtain ⟨sb, so, hR', -, hsbl, hcell⟩ : ∃ b off, R = some ⟨b, off, none⟩ ∧ True ∧ b < w7.heap.size ∧ ∀ j, j < 5 → w7.cell? ⟨b, off + j, none⟩ = some (nth (shRow ⟨1, 0, 8, M, ms.length, mc, L, 0, pc⟩) j) := by
        obtain ⟨A, c, e, -, h⟩ := hr7
        obtain ⟨b, off, hA, -, hb, hc⟩ := h Nat.zero_lt_one
        injection e with e1 _ _
        exact ⟨b, off, e1.trans hA, trivial, hb, fun j hj => by have := (hc 0 Nat.zero_lt_one).2 j hj; simpa [nth] using this⟩
      subst hR'
      refine (hot_lives D vb sb so rc ms.length mc 0 pc M L _ w7 (cell_block k7 0 _ rfl) (cell_block k7 1 _ rfl) (cell_block k7 6 _ rfl) (hcell 0 (by omega)) (hcell 1 (by omega)) (hcell 2 (by omega)) (hcell 3 (by omega)) (hcell 4 (by omega)) (HLS.out.below hB7)).mono ?_
      rintro e w8 ⟨rfl, hb8⟩
      have hB8 : Below w.heap.size w w8 := hB7.trans (hb8.mono hB7.size)
      have HB8 := Lib.hid hB8
      have HZ8 := Lib.hid ((hb8.block _ (lt_of_block z7)).trans z7)
      clear hB7 k7 z7 hr7 hb8 hB8 hcell
      have hz8 := HZ8.out
      have z0 := cell_block hz8 0 _ rfl; have z1 := cell_block hz8 1 _ rfl; have z2 := cell_block hz8 2 _ rfl; have z3 := cell_block hz8 3 _ rfl; have z4 := cell_block hz8 4 _ rfl; have z5 := cell_block hz8 5 _ rfl
      have fz0 := frozen_of_row w8 _ 0 _ _ hz8; have fz1 := frozen_of_row w8 _ 1 _ _ hz8; have fz2 := frozen_of_row w8 _ 2 _ _ hz8; have fz3 := frozen_of_row w8 _ 3 _ _ hz8; have fz4 := frozen_of_row w8 _ 4 _ _ hz8; have fz5 := frozen_of_row w8 _ 5 _ _ hz8
      have hlt8 := lt_of_block hz8
      clear hz8
      go_wp2
      have hr := row6_set HZ8.out (.int .i64 1) (.int .i64 1) (.int .i64 0) (.int .i64 3) (.int .i64 0) (.int .i64 0)
      refine bodyPost_ret (results_row_tmp rfl _ _ (w.heap.size + 1) 25 #[.int .i64 1, .int .i64 1, .int .i64 0, .int .i64 3, .int .i64 0, .int .i64 0] (0, 0) _ rfl ?blk Try.underlying25 rfl (by kernel_rfl)) rfl ⟨rfl, ?b⟩
      case blk => exact block_old _ hr.1
      case b => exact (HB8.out.trans (hr.2.below HB8.out.size (fun x _ h => by omega))).alloc (by have h1 := HB8.out.size; simp; omega) _
end Go.Proofs.Ytcnckmeelcfeeaa
