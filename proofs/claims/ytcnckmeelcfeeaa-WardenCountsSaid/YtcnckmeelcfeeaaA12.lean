/-
  Contracts: a Map's Clone.
-/
import Derived.Test.YtcnckmeelcfeeaaA10
import Derived.Test.YtcnckmeelcfeeaaA2
namespace Go.Proofs.Ytcnckmeelcfeeaa
open Go.RowKit
set_option maxRecDepth 100000

set_option maxHeartbeats 4000000 in
theorem mapClone_any (D1 D2 : Nat → Prop) (b off : Nat) (lv vv : Value) (ps : List (Sp × Int)) (w : World) (h0 : w.cell? ⟨b, off, none⟩ = some lv) (h1 : w.cell? ⟨b, off + 1, none⟩ = some vv)
    (hL : Rd D1 w 2 lv (prows ps)) (hV : Rd D2 w 1 vv (vrows ps)) (hn : ps.length ≤ 1000) :
    Calls Try.prog 81 #[.pointer (some ⟨b, off, none⟩)] w fun e w' => ∃ nb lv' vv', e = .returned (.pointer (some ⟨nb, 0, none⟩)) ∧ w.heap.size ≤ nb ∧ w'.heap[nb]? = some (.cells [lv', vv'].toArray 95 (0, 0)) ∧
      OwnR w' w.heap.size 36 2 lv' (prows ps) ∧ OwnR w' w.heap.size 3 1 vv' (vrows ps) ∧ Below w.heap.size w w' := by
  have hL' := hL; have hV' := hV
  obtain ⟨AL, cL, rfl, -, -⟩ := hL'
  obtain ⟨AV, cV, rfl, -, -⟩ := hV'
  have hbl := lt_of_cell h0
  have hV2 := hV.ints
  simp only [prows_length, vrows_length] at h0 h1 hL hV2
  have HL : Hid (Rd D1 w 2 (.slice AL ps.length cL) (srows (ps.map Prod.fst))) := hL
  have HV : Hid (Ints D2 w (.slice AV ps.length cV) (ps.map Prod.snd)) := hV2
  clear hL hV hV2
  go_enter Try.func81, Try.ntmps81
  go_upto_region 3 with fail
  go_cut [2] from 3 to 18 (fun p wx => ∃ nb lv' vv', p = .pointer (some ⟨nb, 0, none⟩) ∧ w.heap.size ≤ nb ∧ wx.heap[nb]? = some (.cells [lv', vv'].toArray 95 (0, 0)) ∧
      OwnR wx w.heap.size 36 2 lv' (prows ps) ∧ OwnR wx w.heap.size 3 1 vv' (vrows ps) ∧ Below w.heap.size w wx)
  case first =>
    go_region_held3 (fun w' => w'.cell? ⟨b, off, none⟩ = some (.slice AL ps.length cL) ∧ w'.cell? ⟨b, off + 1, none⟩ = some (.slice AV ps.length cV))
      (first | (go_keep; done) | (go_split_ands; refine ⟨?_, ?_⟩ <;> exact Lib.cell?_alloc_some _ (by assumption)) | (go_split_ands; refine ⟨?_, ?_⟩ <;> exact (hb2.cell (by first | omega | (simp <;> omega))).trans (by assumption)) | (go_split_ands; refine ⟨?_, ?_⟩ <;> exact (hb1.cell (by first | omega | (simp <;> omega))).trans (by assumption)))
      (first
        | (go_at_call 96; go_must (refine (cloneSpan_any D1 (.slice AL ps.length cL) (ps.map Prod.fst) _ (HL.out.below ?lb) ?ln).mono ?_; (case lb => first | exact hBi | (repeat (first | exact Below.refl _ _ | refine below_drewN ?_ _ | refine Below.drew ?_ | refine Below.alloc ?_ (by simp <;> omega) _))); (case ln => simp; omega); rintro e w1 ⟨v1, rfl, hown1, hb1⟩; have hv1 := hown1.slice; simp only [srows_length, List.length_map] at hv1; obtain ⟨A1, c1, rfl⟩ := hv1; have hBs : Below w.heap.size w w1 := (by first | exact bthen hBi hb1 hBi.size | exact Below.trans (by (repeat (first | exact Below.refl _ _ | refine below_drewN ?_ _ | refine Below.drew ?_ | refine Below.alloc ?_ (by simp <;> omega) _))) (hb1.mono (by simp))); have hzs := hBs.size; have oS : OwnR w1 w.heap.size 36 2 (.slice A1 ps.length c1) (prows ps) := OwnR.rebase hown1 (fun g hg => by have := (hown1.lt g hg).1; first | (have := hBi.size; omega) | (simp at this; omega))))
        | (go_at_call 69; go_must (refine (cloneInt_any D2 (.slice AV ps.length cV) (ps.map Prod.snd) _ (HV.out.below ?lb) ?ln).mono ?_; (case lb => first | exact hBs | (repeat (first | exact Below.refl _ _ | refine below_drewN ?_ _ | refine Below.drew ?_ | refine Below.alloc ?_ (by simp <;> omega) _))); (case ln => simp; omega); rintro e w2 ⟨v2, rfl, hown2, hb2⟩; have hv2 := hown2.slice; simp only [irows_length, List.length_map] at hv2; obtain ⟨A2, c2, rfl⟩ := hv2; have hBi : Below w.heap.size w w2 := (by first | exact bthen hBs hb2 hBs.size | exact Below.trans (by (repeat (first | exact Below.refl _ _ | refine below_drewN ?_ _ | refine Below.drew ?_ | refine Below.alloc ?_ (by simp <;> omega) _))) (hb2.mono (by simp))); have hzi := hBi.size; have oI : OwnR w2 w.heap.size 3 1 (.slice A2 ps.length c2) (vrows ps) := OwnR.rebase hown2 (fun g hg => by have := (hown2.lt g hg).1; first | (have := hBs.size; omega) | (simp at this; omega)))))
    all_goals (go_wp2_with fail; go_meet)
    exact ⟨_, _, _, rfl, hzi, block_new _ _ rfl, (oS.below hb2).alloc _, oI.alloc _, hBi.alloc hzi _⟩
  case rest =>
    obtain ⟨nb, lv', vv', rfl, r1, r2, r3, r4, r5⟩ := hcut
    go_wp2
    go_ret
    exact ⟨nb, lv', vv', rfl, r1, r2, r3, r4, r5⟩
end Go.Proofs.Ytcnckmeelcfeeaa
