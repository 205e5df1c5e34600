/-
  Rows that a call owns: what append makes of them; what they read as. No program in it.
-/
import Derived.Test.YtcnckmeelcfeeaaLam
import Derived.Laws.OwnMore
import Derived.Laws.MakeOwn
import Derived.Laws.CopyRow
namespace Go.Proofs.Ytcnckmeelcfeeaa
open Go.RowKit

/-- v is a row of the call's own, in a block from base on, of elements of k cells each: rs. -/
def OwnR (w : World) (base : Nat) (e : TypeId) (k : Nat) (v : Value) (rs : List (List Value)) : Prop :=
  w.ownsRow base e k v rs.length rs.flatten ∧ ∀ r ∈ rs, r.length = k

theorem flatten_get {k : Nat} : ∀ (rs : List (List Value)), (∀ r ∈ rs, r.length = k) → ∀ i j, i < rs.length → j < k → rs.flatten[i * k + j]? = some (nth (nth rs i) j)
  | [], _, i, j, hi, _ => by simp at hi
  | r :: rs, h, i, j, hi, hj => by
    have hr : r.length = k := h r (by simp)
    cases i with
    | zero =>
      have : j < r.length := by omega
      simp only [List.flatten_cons, Nat.zero_mul, Nat.zero_add]
      rw [List.getElem?_append_left this]
      exact get?_nth (by simpa [nth] using this)
    | succ i =>
      have hik : (i + 1) * k + j = r.length + (i * k + j) := by rw [Nat.add_mul, hr]; omega
      simp only [List.flatten_cons, hik]
      rw [List.getElem?_append_right (by omega), Nat.add_sub_cancel_left]
      have := flatten_get rs (fun r hr => h r (by simp [hr])) i j (by simpa using hi) hj
      rw [this]; simp [nth]
theorem flatten_len {k : Nat} : ∀ (rs : List (List Value)), (∀ r ∈ rs, r.length = k) → rs.flatten.length = rs.length * k
  | [], _ => by simp
  | r :: rs, h => by
    rw [List.flatten_cons, List.length_append, flatten_len rs (fun r hr => h r (by simp [hr])), h r (by simp)]
    simp [Nat.add_mul]; omega

theorem OwnR.nil (w : World) (base : Nat) (e : TypeId) (k : Nat) : OwnR w base e k (.slice none 0 0) [] := ⟨w.ownsRow_nil base e k, by simp⟩
theorem OwnR.rd {w : World} {base k e : Nat} {v : Value} {rs : List (List Value)} (h : OwnR w base e k v rs) : Rd (fun b => v.ownBlock = some b ∧ base ≤ b) w k v rs := by
  rcases h.1.2 with ⟨rfl, h0⟩ | ⟨g, cap, cur, rfl, hb, hh, h1, h2, _⟩
  · obtain rfl : rs = [] := List.eq_nil_of_length_eq_zero h0
    exact Rd.nil _ _ _
  · refine ⟨_, cap, rfl, by have h3 : cap ≤ 9223372036854775807 := h2; omega, fun h0 => ⟨g, 0, rfl, ⟨rfl, hb⟩, (Array.getElem?_eq_some_iff.1 hh).1, fun i hi => ⟨h.2 _ (by rw [nth_get hi]; exact List.getElem_mem _), fun j hj => ?_⟩⟩⟩
    have hc := h.1.cells (g := g) rfl (i * k + j) _ (flatten_get rs h.2 i j hi hj)
    have ha : (⟨g, 0, none⟩ : Addr).add (i * k + j) = ⟨g, 0 + i * k + j, none⟩ := by unfold Addr.add; split <;> simp_all
    rwa [ha] at hc
theorem OwnR.kept {w w' : World} {base k e : Nat} {v : Value} {rs : List (List Value)} (h : OwnR w base e k v rs) {row : Option Nat} (hg : w.grownBy w' row) (hne : v.ownBlock = none ∨ v.ownBlock ≠ row) : OwnR w' base e k v rs :=
  ⟨h.1.kept hg hne, h.2⟩
theorem OwnR.mods {S : Nat → Prop} {w w' : World} {base k e : Nat} {v : Value} {rs : List (List Value)} (h : OwnR w base e k v rs) (hm : Mods S w w') (hS : ∀ g, v.ownBlock = some g → ¬ S g) : OwnR w' base e k v rs := by
  refine ⟨⟨h.1.1, ?_⟩, h.2⟩
  rcases h.1.2 with h1 | ⟨g, cap, cur, rfl, hb, hh, r⟩
  · exact .inl h1
  · exact .inr ⟨g, cap, cur, rfl, hb, (hm.block g (Array.getElem?_eq_some_iff.1 hh).1 (hS g rfl)).trans hh, r⟩
theorem OwnR.below {w w' : World} {base k e : Nat} {v : Value} {rs : List (List Value)} (h : OwnR w base e k v rs) (hb : Below w.heap.size w w') : OwnR w' base e k v rs :=
  h.mods (S := fun _ => False) (.of_below hb) (fun _ _ h => h)
theorem OwnR.alloc {w : World} {base k e : Nat} {v : Value} {rs : List (List Value)} (h : OwnR w base e k v rs) (o : Obj) : OwnR (w.alloc o) base e k v rs := ⟨h.1.alloc o, h.2⟩
theorem OwnR.lt {w : World} {base k e : Nat} {v : Value} {rs : List (List Value)} (h : OwnR w base e k v rs) : ∀ g, v.ownBlock = some g → base ≤ g ∧ g < w.heap.size := h.1.lt
theorem OwnR.rebase {w : World} {base base' k e : Nat} {v : Value} {rs : List (List Value)} (h : OwnR w base e k v rs) (hb : ∀ g, v.ownBlock = some g → base' ≤ g) : OwnR w base' e k v rs := by
  refine ⟨⟨h.1.1, ?_⟩, h.2⟩
  rcases h.1.2 with h1 | ⟨g, cap, cur, rfl, _, r⟩
  · exact .inl h1
  · exact .inr ⟨g, cap, cur, rfl, hb g rfl, r⟩
theorem OwnR.type_ne {w : World} {b b' e e' k k' : Nat} {v v' : Value} {rs rs' : List (List Value)} (h : OwnR w b e k v rs) (h' : OwnR w b' e' k' v' rs') (hne : e ≠ e') : v.ownBlock = none ∨ v.ownBlock ≠ v'.ownBlock := by
  rcases h.1.2 with ⟨rfl, _⟩ | ⟨g, cap, cur, rfl, _, hh, _⟩
  · exact .inl rfl
  · refine .inr fun hk => ?_
    rcases h'.1.2 with ⟨rfl, _⟩ | ⟨g', cap', cur', rfl, _, hh', _⟩
    · simp [Value.ownBlock] at hk
    · have : g = g' := by simpa [Value.ownBlock] using hk
      subst this
      rw [hh] at hh'
      injection hh' with hh'
      injection hh' with _ ht
      exact hne ht
theorem OwnR.block_ne {w : World} {b e k : Nat} {v : Value} {rs : List (List Value)} (h : OwnR w b e k v rs) {g : Nat} {cs : Array Value} {T : TypeId} {fr : Nat × Nat} (hg : w.heap[g]? = some (.cells cs T fr)) (hne : e ≠ T) : v.ownBlock ≠ some g := by
  rcases h.1.2 with ⟨rfl, _⟩ | ⟨g', cap, cur, rfl, _, hh, _⟩
  · simp [Value.ownBlock]
  · intro hk
    have : g' = g := by simpa [Value.ownBlock] using hk
    subst this
    rw [hh] at hg
    injection hg with hg
    injection hg with _ ht
    exact hne ht
/-- The shape of what is owned. -/
theorem OwnR.slice {w : World} {b e k : Nat} {v : Value} {rs : List (List Value)} (h : OwnR w b e k v rs) : ∃ A c, v = .slice A rs.length c := by
  rcases h.1.2 with ⟨rfl, h0⟩ | ⟨g, cap, cur, rfl, _⟩
  · exact ⟨none, 0, by rw [h0]⟩
  · exact ⟨_, cap, rfl⟩

def irows (l : List Int) : List (List Value) := l.map fun x => [.int .i64 x]
theorem irows_length (l : List Int) : (irows l).length = l.length := by simp [irows]
theorem irows_append (l m : List Int) : irows (l ++ m) = irows l ++ irows m := by simp [irows]
theorem Rd.ints {D : Nat → Prop} {w : World} {v : Value} {l : List Int} (h : Rd D w 1 v (irows l)) : Ints D w v l := by
  obtain ⟨A, c, e, hl, h⟩ := h
  rw [irows_length] at e hl h
  refine ⟨A, c, e, hl, fun h0 => ?_⟩
  obtain ⟨b, off, hA, hD, hb, hc⟩ := h h0
  refine ⟨b, off, hA, hD, hb, fun j hj => ?_⟩
  have := (hc j hj).2 0 (by omega)
  rw [Nat.mul_one, Nat.add_zero] at this
  rw [this]; simp [irows, nth_map _ hj]; rfl
theorem Ints.rd {D : Nat → Prop} {w : World} {v : Value} {l : List Int} (h : Ints D w v l) : Rd D w 1 v (irows l) := by
  obtain ⟨A, c, e, hl, h⟩ := h
  refine ⟨A, c, by rw [irows_length]; exact e, by rw [irows_length]; exact hl, fun h0 => ?_⟩
  rw [irows_length] at h0
  obtain ⟨b, off, hA, hD, hb, hc⟩ := h h0
  refine ⟨b, off, hA, hD, hb, fun j hj => ?_⟩
  rw [irows_length] at hj
  have e1 : nth (irows l) j = [.int .i64 (nth l j)] := by simp [irows, nth_map _ hj]
  refine ⟨by rw [e1]; rfl, fun i hi => ?_⟩
  obtain rfl : i = 0 := by omega
  rw [e1, Nat.mul_one, Nat.add_zero, hc j hj]; rfl

theorem add_off (b o j : Nat) : (⟨b, o, none⟩ : Addr).add j = ⟨b, o + j, none⟩ := by
  unfold Addr.add
  by_cases h : j = 0
  · rw [if_pos h, h]; rfl
  · rw [if_neg h]

section
variable {P : Program}
theorem info_of {e k bytes : Nat} {z : Value} (h : (P.info? e).map (fun i => (i.zero, i.size, i.bytes)) = some (some z, k, bytes)) : ∃ i, P.info? e = some i ∧ i.zero = some z ∧ i.size = k ∧ i.bytes = bytes := by
  obtain ⟨i, hi, hz⟩ := Option.map_eq_some_iff.1 h
  simp only [Prod.mk.injEq] at hz
  exact ⟨i, hi, hz.1, hz.2.1, hz.2.2⟩

/-- append(v, sv...): v the call's own, sv whatever reads as rows. -/
theorem run_app (w : World) (base : Nat) (t ty e : TypeId) (z : Value) (k bytes : Nat) (ht : P.underlying t = some (.slice e))
    (hinfo : (P.info? e).map (fun i => (i.zero, i.size, i.bytes)) = some (some z, k, bytes)) (hzs : z.cells.size = k) (hk : 0 < k)
    (v sv : Value) (rs rs2 : List (List Value)) (D : Nat → Prop) (hown : OwnR w base e k v rs) (hsrc : Rd D w k sv rs2) (h1 : ∀ r ∈ rs2, r.length = k ∧ ∀ u ∈ r, u.oneCell' = true)
    (hl : (rs.length + rs2.length) * bytes ≤ 140737488355328) (hlen : rs.length + rs2.length ≤ 140737488355328) (hbase : base ≤ w.heap.size) :
    ∃ v' w', (Builtin.append_ #[t, t] ty #[v, sv]).run P w = .ok v' w' ∧ OwnR w' base e k v' (rs ++ rs2) ∧ w.grownBy w' v.ownBlock ∧ (v'.ownBlock = v.ownBlock ∨ v'.ownBlock = some w.heap.size) := by
  obtain ⟨i, hi, hz, hs, hb⟩ := info_of hinfo
  obtain ⟨A, c, rfl, hl2, hsrc⟩ := hsrc
  have hfl : rs2.flatten.length = rs2.length * k := flatten_len rs2 (fun r hr => (h1 r hr).1)
  have hone : ∀ u ∈ rs2.flatten, u.oneCell' = true := by
    intro u hu
    obtain ⟨r, hr, hur⟩ := List.mem_flatten.1 hu
    exact (h1 r hr).2 u hur
  rcases Nat.eq_zero_or_pos rs2.length with h0 | h0
  · obtain rfl : rs2 = [] := List.eq_nil_of_length_eq_zero h0
    refine ⟨v, w, ?_, by simpa using hown, World.grownBy.refl w _, .inl rfl⟩
    rcases hown.1.2 with ⟨rfl, hn⟩ | ⟨g, cap, cur, rfl, _, _, hnc, _⟩
    · cases A <;> simp [Builtin.append_, run_underlying ht, sizeOf, typeInfo, hi, Builtin.lenOf, Builtin.firstCells, loadCells, loadCellsFrom]
    · cases A <;> simp [Builtin.append_, run_underlying ht, sizeOf, typeInfo, hi, Builtin.lenOf, Builtin.firstCells, hnc, storeCells, loadCells, loadCellsFrom]
  · obtain ⟨b, off, rfl, hD, hbl, hc⟩ := hsrc h0
    obtain ⟨v', w', hr, h2, h3, _, h5⟩ := run_append_own_at (P := P) w base t ty e i z k bytes ht hi hz hs hb hzs hk v rs.length rs.flatten hown.1 ⟨b, off, none⟩ rs2.length c rs2.flatten hfl
      (fun j u hu => by
        have hj : j < rs2.length * k := by
          have := (List.getElem?_eq_some_iff.1 hu).1
          omega
        have hq : j / k < rs2.length := Nat.div_lt_of_lt_mul (by rw [Nat.mul_comm]; exact hj)
        have hr : j % k < k := Nat.mod_lt _ hk
        have hjj : j = (j / k) * k + j % k := by rw [Nat.mul_comm]; exact (Nat.div_add_mod j k).symm
        have hg := flatten_get rs2 (fun r hr => (h1 r hr).1) (j / k) (j % k) hq hr
        rw [← hjj, hu] at hg
        have hcc := (hc (j / k) hq).2 (j % k) hr
        rw [add_off, show off + j = off + j / k * k + j % k by omega, hcc, ← hg])
      hone (by simp only [maxLen]; omega) hl hbase
    refine ⟨v', w', hr, ⟨by simpa using h2, ?_⟩, h3, h5⟩
    intro r hr
    rcases List.mem_append.1 hr with h | h
    · exact hown.2 r h
    · exact (h1 r h).1

theorem wpList_app {w : World} {ops : Array Oper} {rest : List Oper} {o : Oper} {a : Act} {Q : Exit → Act → World → Prop} (D : Nat → Prop) (rs rs2 : List (List Value)) (base : Nat) (e : TypeId) (z : Value) (k bytes : Nat) (hgd : o.guard = none) (s x : Operand) (t : TypeId)
    (ho : o.op = .call { callee := .builtin .append, args := #[s, x], argTypes := #[t, t] }) (ht : P.underlying t = some (.slice e))
    (hinfo : (P.info? e).map (fun i => (i.zero, i.size, i.bytes)) = some (some z, k, bytes)) (hzs : z.cells.size = k) (hk : 0 < k)
    {v sv : Value} (hown : OwnR w base e k v rs) (hsrc : Rd D w k sv rs2) (hs : a.eval s = v) (hx : a.eval x = sv) (h1 : ∀ r ∈ rs2, r.length = k ∧ ∀ u ∈ r, u.oneCell' = true)
    (hl : (rs.length + rs2.length) * bytes ≤ 140737488355328) (hlen : rs.length + rs2.length ≤ 140737488355328) (hbase : base ≤ w.heap.size)
    (h : ∀ v' w', OwnR w' base e k v' (rs ++ rs2) → w.grownBy w' v.ownBlock → (v'.ownBlock = v.ownBlock ∨ v'.ownBlock = some w.heap.size) → wpList P ops Q rest (a.put o.dst v') w') :
    wpList P ops Q (o :: rest) a w := by
  refine wpList_plain hgd fun K hK => ?_
  obtain ⟨v', w', hr, h2, h3, h5⟩ := run_app (P := P) w base t o.type e z k bytes ht hinfo hzs hk v sv rs rs2 D hown hsrc h1 hl hlen hbase
  unfold Oper.wp execOp
  simp only [ho, resolve, invoke, builtin, Sem.run_bind, Sem.run_pure, Result.andThen_ok, List.map_toArray, List.map_cons, List.map_nil, hs, hx, hr]
  exact hK _ _ (h v' w' h2 h3 h5)

/-- The one new element of 'append(s, x)'. -/
theorem rd_new (W : World) (e : TypeId) (r : List Value) : Rd (fun b => W.heap.size ≤ b) (W.alloc (.cells r.toArray e)) r.length (.slice (some ⟨W.heap.size, 0, none⟩) 1 1) [r] := by
  refine ⟨_, 1, rfl, by show (1 : Nat) ≤ 9223372036854775807; omega, fun _ => ⟨_, 0, rfl, Nat.le_refl _, by simp, fun i hi => ?_⟩⟩
  obtain rfl : i = 0 := by simpa using hi
  refine ⟨rfl, fun j hj => ?_⟩
  rw [cell_of_row _ W.heap.size _ r.toArray e (0, 0) (heap_alloc_new W _)]
  simp [nth, List.getElem?_eq_getElem hj, List.getD_eq_getElem?_getD]
/-- The same at a step of a region that draws its order. -/
theorem step_app {w : World} {ops : Array Oper} {o : Oper} {a : Act} {K : Act → World → Prop} {Q : Exit → Act → World → Prop} {E : Prop} (D : Nat → Prop) (rs rs2 : List (List Value)) (base : Nat) (e : TypeId) (z : Value) (k bytes : Nat) (t : TypeId) (v sv : Value)
    (ht : P.underlying t = some (.slice e)) (hinfo : (P.info? e).map (fun i => (i.zero, i.size, i.bytes)) = some (some z, k, bytes))
    (hown : OwnR w base e k v rs) (hsrc : Rd D w k sv rs2) (h1 : ∀ r ∈ rs2, r.length = k ∧ ∀ u ∈ r, u.oneCell' = true)
    (hl : (rs.length + rs2.length) * bytes ≤ 140737488355328) (hlen : rs.length + rs2.length ≤ 140737488355328) (hbase : base ≤ w.heap.size)
    (s x : Operand) (hgd : o.guard = none) (ho : o.op = .call { callee := .builtin .append, args := #[s, x], argTypes := #[t, t] }) (hzs : z.cells.size = k) (hk : 0 < k) (hs : a.eval s = v) (hx : a.eval x = sv)
    (h : ∀ v' w', OwnR w' base e k v' (rs ++ rs2) → w.grownBy w' v.ownBlock → (v'.ownBlock = v.ownBlock ∨ v'.ownBlock = some w.heap.size) → K (a.put o.dst v') w') :
    if Region.wanted o (yielded ops a.tmps) = true then Oper.wp P o a w K Q else E := by
  rw [if_pos (by simp [Region.wanted, hgd])]
  obtain ⟨v', w', hr, h2, h3, h5⟩ := run_app (P := P) w base t o.type e z k bytes ht hinfo hzs hk v sv rs rs2 D hown hsrc h1 hl hlen hbase
  unfold Oper.wp execOp
  simp only [ho, resolve, invoke, builtin, Sem.run_bind, Sem.run_pure, Result.andThen_ok, List.map_toArray, List.map_cons, List.map_nil, hs, hx, hr]
  exact h v' w' h2 h3 h5
theorem rd_block {w : World} {B : Nat} {r : List Value} {e : TypeId} (hb : w.heap[B]? = some (.cells r.toArray e (0, 0))) : Rd (fun b => b = B) w r.length (.slice (some ⟨B, 0, none⟩) 1 1) [r] := by
  refine ⟨_, 1, rfl, by show (1 : Nat) ≤ 9223372036854775807; omega, fun _ => ⟨_, 0, rfl, rfl, (Array.getElem?_eq_some_iff.1 hb).1, fun i hi => ?_⟩⟩
  obtain rfl : i = 0 := by simpa using hi
  refine ⟨rfl, fun j hj => ?_⟩
  rw [cell_of_row _ B _ r.toArray e (0, 0) hb]
  simp [nth, List.getElem?_eq_getElem hj, List.getD_eq_getElem?_getD]
theorem OwnR.drew {w : World} {base k e : Nat} {v : Value} {rs : List (List Value)} (h : OwnR w base e k v rs) : OwnR w.drew base e k v rs := h
theorem OwnR.drewN {w : World} {base k e : Nat} {v : Value} {rs : List (List Value)} (h : OwnR w base e k v rs) (n : Nat) : OwnR (w.drewN n) base e k v rs := h

/-- append(v, x), x of the cells r: v the call's own. -/
theorem wpList_push {W : World} {ops : Array Oper} {rest : List Oper} {o : Oper} {a : Act} {Q : Exit → Act → World → Prop} (base : Nat) (e : TypeId) (z : Value) (k bytes : Nat) (t : TypeId) (r : List Value) (rs : List (List Value)) (v : Value)
    (ht : P.underlying t = some (.slice e)) (hinfo : (P.info? e).map (fun i => (i.zero, i.size, i.bytes)) = some (some z, k, bytes)) (hown : OwnR W base e k v rs)
    (hr : r.length = k ∧ ∀ u ∈ r, u.oneCell' = true) (hl : (rs.length + 1) * bytes ≤ 140737488355328) (hbase : base ≤ W.heap.size) (s x : Operand) (hgd : o.guard = none)
    (ho : o.op = .call { callee := .builtin .append, args := #[s, x], argTypes := #[t, t] }) (hzs : z.cells.size = k) (hk : 0 < k) (hb : 0 < bytes)
    (hs : a.eval s = v) {n : Nat} (hx : a.eval x = .slice (some ⟨n, 0, none⟩) 1 1) (hn : n = W.heap.size)
    (h : ∀ v' w', OwnR w' base e k v' (rs ++ [r]) → W.grownBy w' v.ownBlock → (v'.ownBlock = v.ownBlock ∨ ∃ g, v'.ownBlock = some g ∧ W.heap.size ≤ g) → wpList P ops Q rest (a.put o.dst v') w') :
    wpList P ops Q (o :: rest) a (W.alloc (.cells r.toArray e)) := by
  subst hn
  have hlen : rs.length + 1 ≤ 140737488355328 := Nat.le_trans (Nat.le_mul_of_pos_right _ hb) hl
  have hrd := rd_new W e r
  rw [hr.1] at hrd
  refine wpList_app (w := W.alloc (.cells r.toArray e)) _ rs [r] base e z k bytes hgd s x t ho ht hinfo hzs hk (hown.alloc _) hrd hs hx (by intro q hq; simp at hq; subst hq; exact hr) (by simpa using hl) (by simpa using hlen) (by simp; omega) ?_
  intro v' w' h1 h2 h3
  refine h v' w' h1 (World.grownBy.trans (World.grownBy_alloc W _ _) h2) ?_
  rcases h3 with h3 | h3
  · exact .inl h3
  · exact .inr ⟨_, h3, by simp⟩
theorem zeroCells_list (z : Array Value) (n : Nat) (h1 : ∀ u ∈ z, u.oneCell' = true) : (Builtin.zeroCells z n).toList.length = n * z.size ∧ ∀ u ∈ (Builtin.zeroCells z n).toList, u.oneCell' = true := by
  refine ⟨by simp [Builtin.zeroCells], fun u hu => ?_⟩
  simp only [Builtin.zeroCells, Array.toList_map, List.mem_map] at hu
  obtain ⟨i, hi, rfl⟩ := hu
  have hi' : i < n * z.size := by simpa using hi
  have hz : 0 < z.size := by
    rcases Nat.eq_zero_or_pos z.size with h | h
    · rw [h] at hi'; omega
    · exact h
  have hm : i % z.size < z.size := Nat.mod_lt _ hz
  rw [getElem!_pos z (i % z.size) hm]
  exact h1 _ (Array.getElem_mem hm)
theorem wpList_clear {w : World} {ops : Array Oper} {rest : List Oper} {o : Oper} {a : Act} {Q : Exit → Act → World → Prop} (g off n c : Nat) (cur : Array Value) (e : TypeId) (z : Value) (bytes : Nat) (hgd : o.guard = none) (x : Operand) (t : TypeId)
    (ho : o.op = .call { callee := .builtin .clear, args := #[x], argTypes := #[t] }) (ht : P.underlying t = some (.slice e))
    (hinfo : (P.info? e).map (fun i => (i.zero, i.size, i.bytes)) = some (some z, z.cells.size, bytes)) (hz1 : ∀ u ∈ z.cells, u.oneCell' = true)
    (hx : a.eval x = .slice (some ⟨g, off, none⟩) (n + 1) c) (hg : w.heap[g]? = some (.cells cur e (0, 0))) (hn : off + (n + 1) * z.cells.size ≤ cur.size)
    (h : wpList P ops Q rest (a.put o.dst (.tuple #[])) (w.setRow g (cur.toList.take off ++ (Builtin.zeroCells z.cells (n + 1)).toList ++ cur.toList.drop (off + (n + 1) * z.cells.size)).toArray)) :
    wpList P ops Q (o :: rest) a w := by
  refine wpList_plain hgd fun K hK => ?_
  obtain ⟨i, hi, hz, _, _⟩ := info_of hinfo
  obtain ⟨hl, h1⟩ := zeroCells_list z.cells (n + 1) hz1
  have hst := run_storeCells_at (P := P) g off e (Builtin.zeroCells z.cells (n + 1)).toList 0 cur w hg (by rw [hl]; exact hn) h1
  simp only [Nat.add_zero, hl] at hst
  have hzv : (zeroValue e).run P w = .ok z w := by simp [zeroValue, typeInfo, hi, hz]
  have hr : (Builtin.clear_ #[t] o.type #[.slice (some ⟨g, off, none⟩) (n + 1) c]).run P w = .ok (.tuple #[]) (w.setRow g (cur.toList.take off ++ (Builtin.zeroCells z.cells (n + 1)).toList ++ cur.toList.drop (off + (n + 1) * z.cells.size)).toArray) := by
    simp [Builtin.clear_, run_underlying ht, hzv, hst]
  unfold Oper.wp execOp
  simp only [ho, resolve, invoke, builtin, Sem.run_bind, Sem.run_pure, Result.andThen_ok, List.map_toArray, List.map_cons, List.map_nil, hx, hr]
  exact hK _ _ h
theorem Mods.setRow {S : Nat → Prop} (w : World) {g : Nat} (hg : S g) (cs : Array Value) : Mods S w (w.setRow g cs) :=
  ⟨rfl, rfl, rfl, by simp, fun k _ hn => setRow_other w g k cs (fun e => hn (e ▸ hg))⟩
theorem own_empty (w : World) (base e k : Nat) (hb : base ≤ w.heap.size) : OwnR (w.alloc (.cells #[] e)) base e k (.slice (some ⟨w.heap.size, 0, none⟩) 0 0) [] :=
  ⟨by have := World.ownsRow_lit (base := base) (e := e) (size := k) w #[] 0 hb (by simp [maxLen]) (by simp); simpa using this, by simp⟩
end
end Go.Proofs.Ytcnckmeelcfeeaa
