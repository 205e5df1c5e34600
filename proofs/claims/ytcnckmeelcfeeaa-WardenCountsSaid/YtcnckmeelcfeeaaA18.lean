/-
  Contract: Shards.
-/
import Derived.Test.YtcnckmeelcfeeaaA17
import Derived.Test.YtcnckmeelcfeeaaA14
import Derived.Test.YtcnckmeelcfeeaaO1
import Derived.Test.YtcnckmeelcfeeaaLamRound
import Derived.RangeFuncWrites
import Derived.RangeFuncOne
namespace Go.Proofs.Ytcnckmeelcfeeaa
open Go.RowKit Go.Shelf
attribute [local go_sem] Oper.semAt_some
attribute [local go_sem ↓] shut_app
set_option maxRecDepth 100000

def Shd.small (s : Shd) : Prop := s.ms.length ≤ 1000 ∧ s.past.length ≤ 1000 ∧ ∀ i, i < s.past.length → (nth s.past i).ms.length ≤ 1000
/-- The map has the shard s, all that it leads to in blocks of D. -/
def HasSh (D : Nat → Prop) (w : World) (kvs : List (Int × Value)) (s : Shd) : Prop := ∃ mv pv, (s.id, shVal s mv pv) ∈ kvs ∧ ShRd D w s mv pv

theorem OwnR.turned {W W' : World} {base e k : Nat} {v : Value} {rs : List (List Value)} {row : Option Nat} {B : Nat} (h : OwnR W base e k v rs) (hg : W.grownBy W' row) (hr : ∀ r, row = some r → B ≤ r ∧ ∃ o : Obj, W.heap[r]? = some o ∧ o.isCells = false) : OwnR W' base e k v rs := by
  refine h.kept hg ?_
  rcases h.1.2 with ⟨rfl, -⟩ | ⟨g, cap, cur, rfl, -, hh, -⟩
  · exact .inl rfl
  · refine .inr fun e => ?_
    obtain ⟨-, o, ho, hc⟩ := hr g e.symm
    rw [hh] at ho
    injection ho with ho
    subst ho
    simp [Obj.isCells] at hc
theorem block_turned {W W' : World} {g : Nat} {cs : Array Value} {T : TypeId} {fr : Nat × Nat} {row : Option Nat} {B : Nat} (h : W.heap[g]? = some (.cells cs T fr)) (hg : W.grownBy W' row) (hr : ∀ r, row = some r → B ≤ r ∧ ∃ o : Obj, W.heap[r]? = some o ∧ o.isCells = false) : W'.heap[g]? = some (.cells cs T fr) := by
  refine (hg.block g (lt_of_block h) ?_).trans h
  intro e
  obtain ⟨-, o, ho, hc⟩ := hr g e.symm
  rw [h] at ho
  injection ho with ho
  subst ho
  simp [Obj.isCells] at hc
/-- What is turned are cells: all else that is no cells lies as it lay. -/
theorem keepsFrom_mods {S : Nat → Prop} {W W' : World} (hm : Mods S W W') (hS : ∀ g, S g → g < W.heap.size → ∃ cs T fr, W.heap[g]? = some (.cells cs T fr)) (B : Nat) : KeepsFrom B W W' := by
  refine ⟨hm.size, fun g o _ hg hc => (hm.block g (lt_of_block hg) (fun hs => ?_)).trans hg⟩
  obtain ⟨cs, T, fr, h⟩ := hS g hs (lt_of_block hg)
  rw [hg] at h; injection h with h; subst h; simp [Obj.isCells] at hc
theorem kpT_mods {S : Nat → Prop} {W W' : World} (hm : Mods S W W') (hS : ∀ g, S g → g < W.heap.size → ∃ cs T fr, W.heap[g]? = some (.cells cs T fr) ∧ ¬ (T = 36 ∨ T = 3 ∨ T = 95 ∨ T = 139)) : KpT W W' := by
  refine ⟨hm.size, fun g cs T fr hT hg => (hm.block g (lt_of_block hg) (fun hs => ?_)).trans hg⟩
  obtain ⟨cs', T', fr', h, hn⟩ := hS g hs (lt_of_block hg)
  rw [hg] at h; injection h with h; injection h with _ h2 _; subst h2; exact hn hT
theorem OwnR.blk {w : World} {base e k : Nat} {v : Value} {rs : List (List Value)} (h : OwnR w base e k v rs) {g : Nat} (hg : v.ownBlock = some g) : ∃ cs, w.heap[g]? = some (.cells cs e (0, 0)) := by
  rcases h.1.2 with ⟨rfl, -⟩ | ⟨g', cap, cur, rfl, -, hh, -⟩
  · cases hg
  · have e1 : g' = g := by simpa [Value.ownBlock] using hg
    subst e1; exact ⟨_, hh⟩

theorem shards_round {w W w1 w2 : World} {ab B : Nat} {s : Shd} {ss : List Shd} {AR A2 M1 M2 : Option Addr} {cR c2 mc1 mc2 : Nat} {rs : List (List Value)}
    (h1 : W.heap[w.heap.size + 1]? = some (.cells [.slice AR rs.length cR].toArray 52 (0, 0))) (h2 : OwnR W w.heap.size 56 5 (.slice AR rs.length cR) rs) (h3 : ShRows W w.heap.size 3 102 ss rs)
    (h4 : W.heap[w.heap.size]? = some (.cells [.pointer (some ⟨ab, 0, none⟩)].toArray 46 (0, 0))) (hBW : Below w.heap.size w W) (hb1 : Below W.heap.size W w1)
    (hown : ShOw w1 W.heap.size 3 102 s (.slice M1 s.ms.length mc1) (.slice M2 s.past.length mc2)) (hg2 : w1.grownBy w2 (Value.slice AR rs.length cR).ownBlock)
    (hown2 : OwnR w2 w.heap.size 56 5 (.slice A2 (rs.length + 1) c2) (rs ++ [shCells s (.slice M1 s.ms.length mc1) (.slice M2 s.past.length mc2)]))
    (k2 : w2.heap[w.heap.size + 1]? = some (.cells [.slice AR rs.length cR].toArray 52 (0, 0))) :
    KeepsFrom B W (w2.setCell ⟨w.heap.size + 1, 0, none⟩ (.slice A2 (rs.length + 1) c2)) ∧ KpT W (w2.setCell ⟨w.heap.size + 1, 0, none⟩ (.slice A2 (rs.length + 1) c2)) ∧
    ((∃ v rs', (w2.setCell ⟨w.heap.size + 1, 0, none⟩ (.slice A2 (rs.length + 1) c2)).heap[w.heap.size + 1]? = some (.cells [v].toArray 52 (0, 0)) ∧ OwnR (w2.setCell ⟨w.heap.size + 1, 0, none⟩ (.slice A2 (rs.length + 1) c2)) w.heap.size 56 5 v rs' ∧ ShRows (w2.setCell ⟨w.heap.size + 1, 0, none⟩ (.slice A2 (rs.length + 1) c2)) w.heap.size 3 102 (ss ++ [s]) rs') ∧ (w2.setCell ⟨w.heap.size + 1, 0, none⟩ (.slice A2 (rs.length + 1) c2)).heap[w.heap.size]? = some (.cells [.pointer (some ⟨ab, 0, none⟩)].toArray 46 (0, 0))) ∧
    Below w.heap.size w (w2.setCell ⟨w.heap.size + 1, 0, none⟩ (.slice A2 (rs.length + 1) c2)) := by
  have M1' : Mods (fun g => some g = (Value.slice AR rs.length cR).ownBlock ∨ g = w.heap.size + 1) w1 (w2.setCell ⟨w.heap.size + 1, 0, none⟩ (.slice A2 (rs.length + 1) c2)) :=
    ((Mods.of_grown hg2).mono (fun _ _ h => .inl h)).trans (Mods.setCell (S := fun g => some g = (Value.slice AR rs.length cR).ownBlock ∨ g = w.heap.size + 1) w2 (p := ⟨w.heap.size + 1, 0, none⟩) (.inr rfl) _) (fun _ _ h => h)
  have M : Mods (fun g => some g = (Value.slice AR rs.length cR).ownBlock ∨ g = w.heap.size + 1) W (w2.setCell ⟨w.heap.size + 1, 0, none⟩ (.slice A2 (rs.length + 1) c2)) := (Mods.of_below hb1).trans M1' (fun _ _ h => h)
  have hi : ∀ (e k : Nat) (mv : Value) (l : List (List Value)), e ≠ 56 → e ≠ 52 → OwnR W w.heap.size e k mv l → OwnR (w2.setCell ⟨w.heap.size + 1, 0, none⟩ (.slice A2 (rs.length + 1) c2)) w.heap.size e k mv l := by
    intro e k mv l he1 he2 h
    refine h.mods M (fun g hg hs => ?_)
    rcases hs with hs | hs
    · rcases h.type_ne h2 he1 with h5 | h5
      · rw [h5] at hg; cases hg
      · exact h5 (hg.trans hs)
    · exact h.block_ne h1 he2 (hs ▸ hg)
  have hj : ∀ (e k : Nat) (mv : Value) (l : List (List Value)), OwnR w1 W.heap.size e k mv l → OwnR (w2.setCell ⟨w.heap.size + 1, 0, none⟩ (.slice A2 (rs.length + 1) c2)) w.heap.size e k mv l := by
    intro e k mv l h
    refine (h.mods M1' (fun g hg hs => ?_)).rebase (fun g hg => Nat.le_trans hBW.size (h.lt g hg).1)
    have h6 := (h.lt g hg).1
    rcases hs with hs | hs
    · have := (h2.lt g hs.symm).2; omega
    · have := lt_of_block h1; omega
  refine ⟨keepsFrom_mods M ?_ B, kpT_mods M ?_, ⟨⟨_, _, heap_setCell_same _ _ 0 _ _ _ k2, hown2.mods (Mods.setCell (S := fun g => g = w.heap.size + 1) w2 (p := ⟨w.heap.size + 1, 0, none⟩) rfl _) (fun g hg hs => hown2.block_ne k2 (by decide) (hs ▸ hg)), ?_⟩, ?_⟩, hBW.trans (M.below hBW.size ?_)⟩
  · rintro g (hs | hs) _
    · obtain ⟨cs, h⟩ := h2.blk hs.symm
      exact ⟨_, _, _, h⟩
    · subst hs; exact ⟨_, _, _, h1⟩
  · rintro g (hs | hs) _
    · obtain ⟨cs, h⟩ := h2.blk hs.symm
      exact ⟨_, _, _, h, by decide⟩
    · subst hs; exact ⟨_, _, _, h1, by decide⟩
  · refine ShRows.snoc (h3.of (fun mv l h => hi _ _ mv l (by decide) (by decide) h) (fun mv l h => hi _ _ mv l (by decide) (by decide) h)) ⟨_, _, rfl, hown.of (fun mv l h => hj _ _ mv l h) (fun mv l h => hj _ _ mv l h)⟩
  · refine (M.block _ (lt_of_block h4) ?_).trans h4
    rintro (hs | hs)
    · exact h2.block_ne h4 (by decide) hs.symm
    · omega
  · rintro x hx (hs | hs)
    · exact (h2.lt x hs.symm).1
    · omega

/-- An entry of the places with its shard. -/
def Ent (D : Nat → Prop) (w : World) (kvs : List (Int × Value)) : Type := {e : (Sp × Int) × Shd // e.1.2 = e.2.id ∧ HasSh D w kvs e.2 ∧ e.2.small}

set_option maxHeartbeats 4000000 in
theorem shards_ents (D D1 D2 : Nat → Prop) (ab mb : Nat) (lv vv : Value) (ps : List (Sp × Int)) (kvs : List (Int × Value)) (w : World) (xs : List (Ent D w kvs)) (hxs : ps = xs.map (·.1.1)) (c4 : w.cell? ⟨ab, 4, none⟩ = some lv) (c5 : w.cell? ⟨ab, 5, none⟩ = some vv) (c6 : w.cell? ⟨ab, 6, none⟩ = some (.map (some mb)))
    (hL : Rd D1 w 2 lv (prows ps)) (hV : Rd D2 w 1 vv (vrows ps)) (hm : MapOf w mb kvs) (hps : ps.length ≤ 1000) :
    Calls Try.prog 23 #[.pointer (some ⟨ab, 0, none⟩)] w fun e w' => ∃ v rs, e = .returned v ∧ OwnR w' w.heap.size 56 5 v rs ∧ ShRows w' w.heap.size 3 102 (xs.map (·.1.2)) rs ∧ Below w.heap.size w w' := by
  refine (callsIn_wide (n := 3)).1 ?_
  refine callsIn_of_wp_marks Try.func23 rfl trivial ?_ rfl
  simp only [Try.ntmps23, List.size_toArray, List.length_cons, List.length_nil, Nat.reduceAdd, Nat.reduceSub, Array.replicate_succ, Array.replicate_zero, List.push_toArray, List.append_toArray, List.nil_append, List.cons_append]
  gi_wp2_with (refine ⟨trivial, ?_⟩; gi_at_call 54; go_must (refine (callsIn_wide.2 (each_at ab 4 _)).mono ?_; rintro e w' ⟨rfl, rfl⟩))
  have hBs := block_new ((w.alloc (.cells #[.pointer (some ⟨ab, 0, none⟩)] 46)).alloc (.cells #[.slice none 0 0] 52)) (.cells [.pointer (some ⟨ab, 4, none⟩)].toArray 139) (n := w.heap.size + 1 + 1) (by simp)
  have hR := block_old (.cells [.pointer (some ⟨ab, 4, none⟩)].toArray 139) (block_new (w.alloc (.cells #[.pointer (some ⟨ab, 0, none⟩)] 46)) (.cells [.slice none 0 0].toArray 52) (n := w.heap.size + 1) (by simp))
  have hA := block_old (.cells [.pointer (some ⟨ab, 4, none⟩)].toArray 139) (block_old (.cells [.slice none 0 0].toArray 52) (block_new w (.cells [.pointer (some ⟨ab, 0, none⟩)].toArray 46) (n := w.heap.size) rfl))
  have hB : Below w.heap.size w (((w.alloc (.cells [.pointer (some ⟨ab, 0, none⟩)].toArray 46)).alloc (.cells [.slice none 0 0].toArray 52)).alloc (.cells [.pointer (some ⟨ab, 4, none⟩)].toArray 139)) := (((Below.refl _ _).alloc (Nat.le_refl _) _).alloc (by simp) _).alloc (by simp; omega) _
  obtain ⟨w0, hw0⟩ : ∃ w0, (((w.alloc (.cells [.pointer (some ⟨ab, 0, none⟩)].toArray 46)).alloc (.cells [.slice none 0 0].toArray 52)).alloc (.cells [.pointer (some ⟨ab, 4, none⟩)].toArray 139)) = w0 := ⟨_, rfl⟩
  have hz0 : w0.heap.size = w.heap.size + 3 := by rw [← hw0]; simp
  change Code.wpIn _ _ _ _ _ _ (((w.alloc (.cells [.pointer (some ⟨ab, 0, none⟩)].toArray 46)).alloc (.cells [.slice none 0 0].toArray 52)).alloc (.cells [.pointer (some ⟨ab, 4, none⟩)].toArray 139))
  rw [hw0] at hB ⊢
  replace hBs : w0.heap[w.heap.size + 1 + 1]? = some (.cells [.pointer (some ⟨ab, 4, none⟩)].toArray 139 (0, 0)) := hw0 ▸ hBs
  replace hR : w0.heap[w.heap.size + 1]? = some (.cells [.slice none 0 0].toArray 52 (0, 0)) := hw0 ▸ hR
  replace hA : w0.heap[w.heap.size]? = some (.cells [.pointer (some ⟨ab, 0, none⟩)].toArray 46 (0, 0)) := hw0 ▸ hA
  clear hw0
  have c4' := (hB.cell (p := ⟨ab, 4, none⟩) (lt_of_cell c4)).trans c4
  have c5' := (hB.cell (p := ⟨ab, 5, none⟩) (lt_of_cell c5)).trans c5
  have c6' := (hB.cell (p := ⟨ab, 6, none⟩) (lt_of_cell c6)).trans c6
  refine wpIn_rangeFunc_ownG rfl (by omega) (gf := 80) (lb := #[.pointer (some ⟨w.heap.size + 1 + 1, 0, none⟩)]) rfl trivial (enters_of Try.func80 (by kernel_rfl) rfl)
    (each_stops (fun e : Ent D w kvs => e.1.1) xs (3 - 1) (by omega) D1 D2 (w.heap.size + 1 + 1) ab 4 lv vv ps hxs w0 (cell_block hBs 0 _ rfl) c4' c5' (hL.below hB) (hV.below hB) hps) KpT.trans (fun W l o o' _ ho hc _ => KpT.putObj W l o o' ho hc) (Below.refl _ _) (fun _ => rfl)
    (fun pre W => ((∃ v rs, W.heap[w.heap.size + 1]? = some (.cells [v].toArray 52 (0, 0)) ∧ OwnR W w.heap.size 56 5 v rs ∧ ShRows W w.heap.size 3 102 (pre.map (·.1.2)) rs) ∧ W.heap[w.heap.size]? = some (.cells [.pointer (some ⟨ab, 0, none⟩)].toArray 46 (0, 0))) ∧ Below w.heap.size w W)
    (fun _ _ _ => False) ?hI (fun _ _ _ _ _ h _ _ => h) ?h0 
    (fun x => { tmps := #[.pointer (some ⟨ab, 0, none⟩), .pointer (some ⟨w.heap.size, 0, none⟩), .pointer (some ⟨w.heap.size + 1, 0, none⟩), undef, .int .i64 x.1.1.2, .pointer (some ⟨ab, 0, none⟩), .bool false, .pointer (some ⟨ab, 0, none⟩), .pointer (some ⟨ab, 0, none⟩), .pointer (some ⟨ab, 4, none⟩), .func (.func 80) #[] #[.pointer (some ⟨w.heap.size + 1 + 1, 0, none⟩)], sval x.1.1.1, .int .i64 x.1.1.2, undef, undef, undef, undef, undef, undef, undef, undef, undef, undef, undef], defers := [] }) ?assign ?body ?done ?stop
  case hI =>
    refine OwnFrom.and (fun s W W' row hs hg hr => ?_) (ownFrom_below (Nat.le_refl _) (by omega))
    obtain ⟨⟨v, rs, h1, h2, h3⟩, h4⟩ := hs
    exact ⟨⟨v, rs, block_turned h1 hg hr, h2.turned hg hr, h3.of (fun _ _ ho => ho.turned hg hr) (fun _ _ ho => ho.turned hg hr)⟩, block_turned h4 hg hr⟩
  case h0 => exact ⟨⟨⟨_, [], hR, OwnR.nil _ _ _ _, ShRows.nil _ _ _ _⟩, hA⟩, hB⟩
  case assign =>
    intro l x W K hK
    gi_wp2
    exact hK
  case body =>
    rintro l pre x W ⟨⟨⟨v, rs, h1, h2, h3⟩, h4⟩, hBW⟩ hlt
    obtain ⟨hid, ⟨mv, pv, hin, hsr⟩, hsm⟩ := x.2
    obtain ⟨s, hs⟩ : ∃ s, x.1.2 = s := ⟨_, rfl⟩
    rw [hs] at hid hin hsr hsm
    rw [← hid] at hin
    have HS := Lib.hid hs; have HID := Lib.hid hid; clear hs hid
    have hsl := h2.slice
    obtain ⟨AR, cR, rfl⟩ := hsl
    have r0 := cell_block h1 0 _ rfl
    have fr0 := frozen_of_row W _ 0 _ _ h1
    have a0 := cell_block h4 0 _ rfl
    have m6 := (hBW.cell (p := ⟨ab, 6, none⟩) (lt_of_cell c6)).trans c6
    have hmW : MapOf W.drew mb kvs := hm.below hBW.drew
    have hsW := hsr.below hBW.drew
    have hzW : w.heap.size + 1 < W.heap.size := lt_of_block h1
    have hr1 := run_get_hit (P := Try.prog) W.drew 96 3 56 mb kvs x.1.1.2 _ false Try.underlying96 Try.underlying3 hmW hin
    have hrl : rs.length ≤ 1000 := by have h5 := h3.1; simp only [List.length_map] at h5; omega
    have H3 := Lib.hid h3; have H4 := Lib.hid h4; have HBW := Lib.hid hBW
    clear h3 h4 hBW hin hsr
    unfold shVal at hr1
    simp only [Bool.false_eq_true, if_false] at hr1
    gi_wp2
    gi_region_with (first
      | (rw [hr1]; go_simp)
      | (refine ⟨trivial, ?_⟩; gi_at_call 55; go_must (refine (CallsIn.inRound l (callsIn_wide.2 (own_agg D s mv pv W.drew hsW hsm.1 hsm.2.1 hsm.2.2))).mono ?_; rintro e w1 ⟨M1, mc1, M2, mc2, rfl, hown, hb1⟩; have hz1 : W.heap.size ≤ w1.heap.size := hb1.size; have k1 := (hb1.block _ (lt_of_block h1)).trans h1; have r1 := cell_block k1 0 _ rfl; have fr1 := frozen_of_row w1 _ 0 _ _ k1; have r1' := cell_block (block_old (.cells [.int .i64 s.id, .int .i64 s.f, .int .i64 s.t, .slice M1 s.ms.length mc1, .slice M2 s.past.length mc2].toArray 56) k1) 0 _ rfl; obtain ⟨A2, c2, w2, hr2, hown2, hg2, hat2⟩ := run_push (P := Try.prog) w1 w.heap.size 52 52 56 (.agg #[.int .i64 0, .int .i64 0, .int .i64 0, .slice none 0 0, .slice none 0 0]) 5 72 Try.underlying52 Try.infoShard rfl (by decide) (by decide) (.slice AR rs.length cR) rs [.int .i64 s.id, .int .i64 s.f, .int .i64 s.t, .slice M1 s.ms.length mc1, .slice M2 s.past.length mc2] (h2.drew.below hb1) ⟨rfl, (by intro u hu; simp at hu; rcases hu with rfl | rfl | rfl | rfl | rfl <;> rfl)⟩ (by omega) (by omega); have k2 := grown_block hg2 k1 (fun g hg e => (h2.block_ne h1 (by decide)) (by rw [hg, e])); have r2 := cell_block k2 0 _ rfl; have fr2 := frozen_of_row w2 _ 0 _ _ k2)))
    all_goals
      have hr := shards_round (B := w0.heap.size) h1 h2 H3.out H4.out HBW.out ⟨hb1.os, hb1.tape, hb1.output, hb1.size, hb1.block⟩ hown hg2 hown2 k2
      rw [show pre.map (·.1.2) ++ [s] = (pre ++ [x]).map (·.1.2) by rw [List.map_append, List.map_singleton, show x.1.2 = s from HS.out]] at hr
      exact hr
  case done =>
    rintro D' ys W hD rfl ⟨⟨⟨v, rs, h1, h2, h3⟩, h4⟩, hBW⟩ hK
    obtain ⟨AR, cR, rfl⟩ := h2.slice
    have r0 := cell_block h1 0 _ rfl
    have fr0 := frozen_of_row W _ 0 _ _ h1
    have hK' := blk_ne hK (p := ⟨w.heap.size + 1, 0, none⟩) (by simp; omega) (.slice AR rs.length cR)
    have M : Mods (fun g => g = w.heap.size + 1 ∨ g = D') W ((W.setCell ⟨w.heap.size + 1, 0, none⟩ (.slice AR rs.length cR)).putObj D' (.deferred none)) :=
      (Mods.setCell (S := fun g => g = w.heap.size + 1 ∨ g = D') W (p := ⟨w.heap.size + 1, 0, none⟩) (.inl rfl) _).trans ((Mods.of_grown (grownBy_putObj' _ D' (.deferred none))).mono (fun _ _ h => .inr (Option.some.inj h))) (fun _ _ h => h)
    have hD' : ∀ cs T fr, W.heap[D']? ≠ some (.cells cs T fr) := fun cs T fr h => by rw [hK] at h; cases h
    have hk : ∀ e k v l, e ≠ 52 → OwnR W w.heap.size e k v l → OwnR ((W.setCell ⟨w.heap.size + 1, 0, none⟩ (.slice AR rs.length cR)).putObj D' (.deferred none)) w.heap.size e k v l := by
      intro e k v l he h
      refine h.mods M (fun g hg hs => ?_)
      rcases hs with hs | hs
      · exact h.block_ne h1 he (hs ▸ hg)
      · obtain ⟨cs, hc⟩ := h.blk hg
        exact hD' _ _ _ (hs ▸ hc)
    have hbx : ((W.setCell ⟨w.heap.size + 1, 0, none⟩ (.slice AR rs.length cR)).putObj D' (.deferred none)).heap[w.heap.size + 1]? = some (.cells [.slice AR rs.length cR].toArray 52 (0, 0)) :=
      grown_block (grownBy_putObj' _ D' (.deferred none)) (heap_setCell_same W _ 0 _ _ _ h1) (fun g hg => by cases hg; omega)
    have hcx := cell_block hbx 0 _ rfl
    gi_wp2
    refine ⟨by simp, .inl ⟨_, _, rfl, run_takeDeferred hK', ?_⟩⟩
    refine ⟨.slice AR rs.length cR, ?_, _, rs, rfl, hk _ _ _ _ (by decide) h2, h3.of (fun _ _ h => hk _ _ _ _ (by decide) h) (fun _ _ h => hk _ _ _ _ (by decide) h), hBW.trans (M.below hBW.size ?_)⟩
    · simp [results, Try.results23, go_sem, hcx]
    · rintro x hx (h | h) <;> omega
  case stop =>
    rintro D c pre W _ _ h _
    exact h.elim
end Go.Proofs.Ytcnckmeelcfeeaa
