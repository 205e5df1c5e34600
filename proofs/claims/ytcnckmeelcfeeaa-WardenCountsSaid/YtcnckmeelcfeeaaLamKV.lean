/-
  A map with int keys, as pairs of a key and a value's cells. No program in it.
-/
import Derived.Test.YtcnckmeelcfeeaaLamOwn
import Derived.MapKept
import Derived.Maps.Own
import Derived.Maps.OwnOps
import Derived.Maps.OwnSet
namespace Go.Proofs.Ytcnckmeelcfeeaa
open Go.RowKit Go.MapKept

def MapOf (w : World) (b : Nat) (kvs : List (Int × Value)) : Prop :=
  ∃ es clock, w.heap[b]? = some (.map es clock) ∧ es.toList.map (fun e => (e.key, e.val)) = kvs.map (fun p => (Value.int .i64 p.1, p.2)) ∧ (kvs.map Prod.fst).Nodup

theorem MapOf.lt {w : World} {b : Nat} {kvs : List (Int × Value)} (h : MapOf w b kvs) : b < w.heap.size := by
  obtain ⟨es, clock, hb, -⟩ := h
  exact lt_of_block hb
theorem MapOf.of_block {w w' : World} {b : Nat} {kvs : List (Int × Value)} (h : MapOf w b kvs) (hb : w'.heap[b]? = w.heap[b]?) : MapOf w' b kvs := by
  obtain ⟨es, clock, h1, h2⟩ := h
  exact ⟨es, clock, hb.trans h1, h2⟩
theorem MapOf.below {w w' : World} {b : Nat} {kvs : List (Int × Value)} (h : MapOf w b kvs) (hb : Below w.heap.size w w') : MapOf w' b kvs := h.of_block (hb.block b h.lt)
theorem MapOf.mods {S : Nat → Prop} {w w' : World} {b : Nat} {kvs : List (Int × Value)} (h : MapOf w b kvs) (hm : Mods S w w') (hS : ¬ S b) : MapOf w' b kvs := h.of_block (hm.block b h.lt hS)
theorem MapOf.made (w : World) : MapOf (w.alloc (.map #[] 0)) w.heap.size [] := ⟨_, _, heap_alloc_new w _, rfl, by simp⟩

theorem kv_at {es : Array MapEntry} {kvs : List (Int × Value)} (h : es.toList.map (fun e => (e.key, e.val)) = kvs.map (fun p => (Value.int .i64 p.1, p.2))) (j : Nat) (e : MapEntry) (he : es.toList[j]? = some e) :
    ∃ p, kvs[j]? = some p ∧ e.key = .int .i64 p.1 ∧ e.val = p.2 := by
  have h1 := congrArg (fun l => l[j]?) h
  simp only [List.getElem?_map, he, Option.map_some] at h1
  cases hp : kvs[j]? with
  | none => rw [hp] at h1; simp at h1
  | some p => rw [hp] at h1; simp at h1; exact ⟨p, rfl, h1.1, h1.2⟩
theorem kv_keys {es : Array MapEntry} {kvs : List (Int × Value)} (h : es.toList.map (fun e => (e.key, e.val)) = kvs.map (fun p => (Value.int .i64 p.1, p.2))) : ∀ x ∈ es.toList, IsKey (.int .i64) x.key := by
  intro x hx
  obtain ⟨j, hj⟩ := List.getElem?_of_mem hx
  obtain ⟨p, -, hk, -⟩ := kv_at h j x hj
  rw [hk]; rfl
theorem nodup_at {kvs : List (Int × Value)} (hn : (kvs.map Prod.fst).Nodup) {i j : Nat} {k : Int} {u v : Value} (hi : kvs[i]? = some (k, u)) (hj : kvs[j]? = some (k, v)) : i = j := by
  have h1 : (kvs.map Prod.fst)[i]? = some k := by simp [hi]
  have h2 : (kvs.map Prod.fst)[j]? = some k := by simp [hj]
  exact (List.getElem?_inj (by have := (List.getElem?_eq_some_iff.1 h1).1; exact this) hn).1 (h1.trans h2.symm)

theorem find_miss {es : Array MapEntry} {kvs : List (Int × Value)} (h : es.toList.map (fun e => (e.key, e.val)) = kvs.map (fun p => (Value.int .i64 p.1, p.2))) {k : Int} (hk : ∀ p ∈ kvs, p.1 ≠ k) :
    Instr.findNow (.int .i64) (.int .i64 k) es.toList 0 = some none := by
  rcases findNow_spec (d := .int .i64) (k := .int .i64 k) rfl es.toList 0 (kv_keys h) with ⟨h1, -⟩ | ⟨j, e, -, h2, h3⟩
  · exact h1
  · obtain ⟨p, hp, hk', -⟩ := kv_at h j e h2
    rw [h3] at hk'
    injection hk' with _ hkk
    exact absurd hkk.symm (hk p (List.mem_of_getElem? hp))
theorem find_hit {es : Array MapEntry} {kvs : List (Int × Value)} (h : es.toList.map (fun e => (e.key, e.val)) = kvs.map (fun p => (Value.int .i64 p.1, p.2))) (hn : (kvs.map Prod.fst).Nodup) {k : Int} {v : Value} (hk : (k, v) ∈ kvs) :
    ∃ j, Instr.findNow (.int .i64) (.int .i64 k) es.toList 0 = some (some (j, v)) ∧ kvs[j]? = some (k, v) := by
  obtain ⟨i, hi⟩ := List.getElem?_of_mem hk
  rcases findNow_spec (d := .int .i64) (k := .int .i64 k) rfl es.toList 0 (kv_keys h) with ⟨-, h1⟩ | ⟨j, e, h1, h2, h3⟩
  · exfalso
    have h4 := congrArg (fun l => l[i]?) h
    simp only [List.getElem?_map, hi, Option.map_some] at h4
    cases he : es.toList[i]? with
    | none => rw [he] at h4; simp at h4
    | some e => rw [he] at h4; simp at h4; exact h1 e (List.mem_of_getElem? he) h4.1
  · obtain ⟨p, hp, hk', hv'⟩ := kv_at h j e h2
    rw [h3] at hk'
    injection hk' with _ hkk
    obtain ⟨pk, pv⟩ := p
    simp only at hkk hv'
    subst hkk
    obtain rfl := nodup_at hn hi hp
    rw [hi] at hp
    injection hp with hp
    injection hp with _ hpv
    refine ⟨i, ?_, hi⟩
    rw [h1, hv', hpv]; simp

theorem map_erase {α β : Type} (f : α → β) (l : List α) (j : Nat) : (l.eraseIdx j).map f = (l.map f).eraseIdx j := by
  induction l generalizing j with
  | nil => rfl
  | cons a l ih => cases j <;> simp [ih]
theorem setBlock_same (w : World) (b : Nat) (o : Obj) (hb : b < w.heap.size) : ({ w with heap := w.heap.setIfInBounds b o } : World).heap[b]? = some o := by
  show (w.heap.setIfInBounds b o)[b]? = some o
  simp [hb]
theorem Mods.setBlock {S : Nat → Prop} (w : World) {b : Nat} (hS : S b) (o : Obj) : Mods S w { w with heap := w.heap.setIfInBounds b o } :=
  ⟨rfl, rfl, rfl, by simp, fun g _ hg => by
    show (w.heap.setIfInBounds b o)[g]? = w.heap[g]?
    rw [Array.getElem?_setIfInBounds_ne (by intro e; subst e; exact hg hS)]⟩

section
variable {P : Program}
theorem mk_map (w : World) (t : TypeId) : (Instr.makeMap t none).run P w = .ok (.map (some w.heap.size)) (w.alloc (.map #[] 0)) := by simp [Instr.makeMap]
/-- m[k] = v, k new. -/
theorem run_put_new (w : World) (mty kt et : TypeId) (b : Nat) (kvs : List (Int × Value)) (k : Int) (v : Value) (hm : P.underlying mty = some (.map kt et)) (hkt : P.underlying kt = some (.int .i64)) (h : MapOf w b kvs) (hk : ∀ p ∈ kvs, p.1 ≠ k) :
    ∃ w', (Instr.mapUpdate mty (.map (some b)) (.int .i64 k) v).run P w = .ok () w' ∧ MapOf w' b (kvs ++ [(k, v)]) ∧ Mods (fun g => g = b) w w' := by
  obtain ⟨es, clock, hb, hes, hn⟩ := h
  have hf := find_miss hes hk
  refine ⟨_, ?_, ⟨es.push { key := .int .i64 k, val := v, born := clock }, clock + 1, setBlock_same w b _ (lt_of_block hb), by simp [hes], ?_⟩, Mods.setBlock (S := fun g => g = b) w rfl _⟩
  · simp [Instr.mapUpdate, run_underlying hm, MapKept.run_getObj_map hb, MapKept.run_checkKey (k := .int .i64 k) hkt rfl, MapKept.run_findKey hkt hf, MapKept.run_setObj_map _ hb, Result.andThen]
  · rw [List.map_append, List.nodup_append]
    refine ⟨hn, by simp, ?_⟩
    intro a ha c hc
    simp at hc
    subst hc
    obtain ⟨p, hp, rfl⟩ := List.mem_map.1 ha
    exact hk p hp
/-- m[k], v, ok := m[k]: k there. -/
theorem run_get_hit (w : World) (mty kt et : TypeId) (b : Nat) (kvs : List (Int × Value)) (k : Int) (v : Value) (ok : Bool) (hm : P.underlying mty = some (.map kt et)) (hkt : P.underlying kt = some (.int .i64)) (h : MapOf w b kvs) (hk : (k, v) ∈ kvs) :
    (Instr.lookup mty (.map (some b)) (.int .i64 k) ok).run P w = .ok (if ok then .tuple #[v, .bool true] else v) w := by
  obtain ⟨es, clock, hb, hes, hn⟩ := h
  obtain ⟨j, hf, -⟩ := find_hit hes hn hk
  simp [Instr.lookup, run_underlying hm, MapKept.run_getObj_map hb, MapKept.run_checkKey (k := .int .i64 k) hkt rfl, MapKept.run_findKey hkt hf, Result.andThen]
theorem run_get_miss (w : World) (mty kt et : TypeId) (b : Nat) (kvs : List (Int × Value)) (k : Int) (z : Value) (ok : Bool) (hm : P.underlying mty = some (.map kt et)) (hkt : P.underlying kt = some (.int .i64)) (hz : (zeroValue et).run P w = .ok z w) (h : MapOf w b kvs) (hk : ∀ p ∈ kvs, p.1 ≠ k) :
    (Instr.lookup mty (.map (some b)) (.int .i64 k) ok).run P w = .ok (if ok then .tuple #[z, .bool false] else z) w := by
  obtain ⟨es, clock, hb, hes, hn⟩ := h
  have hf := find_miss hes hk
  simp [Instr.lookup, run_underlying hm, MapKept.run_getObj_map hb, MapKept.run_checkKey (k := .int .i64 k) hkt rfl, MapKept.run_findKey hkt hf, Result.andThen, hz]
/-- delete(m, k), k there. -/
theorem run_delete_hit (w : World) (mty kt et ty : TypeId) (b : Nat) (kvs : List (Int × Value)) (k : Int) (v : Value) (hm : P.underlying mty = some (.map kt et)) (hkt : P.underlying kt = some (.int .i64)) (h : MapOf w b kvs) (hk : (k, v) ∈ kvs) :
    ∃ w', (Builtin.delete_ #[mty, kt] ty #[.map (some b), .int .i64 k]).run P w = .ok (.tuple #[]) w' ∧ MapOf w' b (kvs.filter fun p => p.1 ≠ k) ∧ Mods (fun g => g = b) w w' := by
  obtain ⟨es, clock, hb, hes, hn⟩ := h
  obtain ⟨j, hf, hj⟩ := find_hit hes hn hk
  have hlen : es.size = kvs.length := by simpa using congrArg List.length hes
  have hjl : j < kvs.length := (List.getElem?_eq_some_iff.1 hj).1
  have he : (kvs.filter fun p => p.1 ≠ k) = kvs.eraseIdx j := by
    clear hes hf hlen hb hk
    induction kvs generalizing j with
    | nil => simp at hjl
    | cons p l ih =>
      cases j with
      | zero =>
        simp at hj
        subst hj
        simp only [List.map_cons, List.nodup_cons] at hn
        simp only [List.eraseIdx_cons_zero]
        rw [List.filter_cons_of_neg (by simp), List.filter_eq_self]
        intro a ha
        simp only [ne_eq, decide_not, Bool.not_eq_eq_eq_not, Bool.not_true, decide_eq_false_iff_not]
        intro hak
        exact hn.1 (List.mem_map.2 ⟨a, ha, hak⟩)
      | succ j =>
        simp only [List.getElem?_cons_succ] at hj
        simp only [List.map_cons, List.nodup_cons] at hn
        have hpk : p.1 ≠ k := fun e => hn.1 (List.mem_map.2 ⟨(k, v), List.mem_of_getElem? hj, e.symm⟩)
        rw [List.filter_cons_of_pos (by simpa using hpk), List.eraseIdx_cons_succ, ih hn.2 j hj (by simpa using hjl)]
  refine ⟨_, ?_, ⟨es.eraseIdxIfInBounds j, clock, setBlock_same w b _ (lt_of_block hb), ?_, ?_⟩, Mods.setBlock (S := fun g => g = b) w rfl _⟩
  · simp [Builtin.delete_, run_underlying hm, MapKept.run_getObj_map hb, MapKept.run_checkKey (k := .int .i64 k) hkt rfl, MapKept.run_findKey hkt hf, MapKept.run_setObj_map _ hb, Result.andThen]
  · rw [he]
    unfold Array.eraseIdxIfInBounds
    rw [dif_pos (by omega)]
    simp only [Array.toList_eraseIdx]
    rw [map_erase, map_erase, hes]
  · rw [he]
    have : (kvs.eraseIdx j).map Prod.fst = (kvs.map Prod.fst).eraseIdx j := map_erase _ _ _
    rw [this]
    exact hn.sublist (List.eraseIdx_sublist _ _)

theorem wpList_put_new {w : World} {ops : Array Oper} {rest : List Oper} {o : Oper} {a : Act} {Q : Exit → Act → World → Prop} (mty kt et : TypeId) (b : Nat) (kvs : List (Int × Value)) (k : Int) (v : Value) (hm : P.underlying mty = some (.map kt et)) (hkt : P.underlying kt = some (.int .i64)) (h : MapOf w b kvs) (hk : ∀ p ∈ kvs, p.1 ≠ k)
    (hgd : o.guard = none) (m x u : Operand) (ho : o.op = .mapUpdate mty m x u) (em : a.eval m = .map (some b)) (ex : a.eval x = .int .i64 k) (eu : a.eval u = v)
    (hQ : ∀ w', MapOf w' b (kvs ++ [(k, v)]) → Mods (fun g => g = b) w w' → wpList P ops Q rest (a.put o.dst undef) w') : wpList P ops Q (o :: rest) a w := by
  refine wpList_plain hgd fun K hK => ?_
  obtain ⟨w', hr, h1, h2⟩ := run_put_new (P := P) w mty kt et b kvs k v hm hkt h hk
  unfold Oper.wp
  simp [execOp, ho, em, ex, eu, hr, Result.andThen]
  exact hK _ _ (hQ w' h1 h2)
theorem step_put_new {w : World} {ops : Array Oper} {o : Oper} {a : Act} {K : Act → World → Prop} {Q : Exit → Act → World → Prop} {E : Prop} (mty kt et : TypeId) (b : Nat) (kvs : List (Int × Value)) (k : Int) (v : Value) (hm : P.underlying mty = some (.map kt et)) (hkt : P.underlying kt = some (.int .i64)) (h : MapOf w b kvs) (hk : ∀ p ∈ kvs, p.1 ≠ k)
    (hgd : o.guard = none) (m x u : Operand) (ho : o.op = .mapUpdate mty m x u) (em : a.eval m = .map (some b)) (ex : a.eval x = .int .i64 k) (eu : a.eval u = v)
    (hQ : ∀ w', MapOf w' b (kvs ++ [(k, v)]) → Mods (fun g => g = b) w w' → K (a.put o.dst undef) w') : if Region.wanted o (yielded ops a.tmps) = true then Oper.wp P o a w K Q else E := by
  rw [if_pos (by simp [Region.wanted, hgd])]
  obtain ⟨w', hr, h1, h2⟩ := run_put_new (P := P) w mty kt et b kvs k v hm hkt h hk
  unfold Oper.wp
  simp [execOp, ho, em, ex, eu, hr, Result.andThen]
  exact hQ w' h1 h2
end
end Go.Proofs.Ytcnckmeelcfeeaa
