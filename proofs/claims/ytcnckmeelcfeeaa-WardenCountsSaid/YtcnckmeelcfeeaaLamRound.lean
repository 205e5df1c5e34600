/-
  A region that draws its order, in the body of a range over a function: it may be walked as anywhere else. No program in it.
-/
import Derived.Test.YtcnckmeelcfeeaaLamOwn
import Derived.RangeFuncCalls
import Derived.RegionIn
namespace Go.Proofs.Ytcnckmeelcfeeaa
open Go.RowKit

section
variable {P : Program} {ops : Array Oper} {o : Oper} {a : Act} {w : World} {Q : Exit → Act → World → Prop} (l n : Nat)

theorem rows_round {row : String} {args : Array Value} {R : Value → World → Prop} (h : Rows P row args w R) : RowsIn (Fence.wide.inRound l) n P row args w R :=
  fun c cs _ => let ⟨v, w', r, s⟩ := h c cs; ⟨v, w', r, stepsIn_wide.2 s⟩

theorem upon_round {next : Act → World → Prop} (r : Result Next) (h : o.upon P a next Q r) : o.uponIn (Fence.wide.inRound l) n P a next Q r := by
  cases r with
  | ok x w' =>
    cases x with
    | value v => exact h
    | skip => exact h
    | defer d => exact h
    | enter f args => exact ⟨fun hd => (by cases hd), (callsIn_wide.2 h).inRound l⟩
    | row row args => exact ⟨fun hd => (by cases hd), rows_round l _ h⟩
    | _ => exact h.elim
  | halt x w' =>
    cases x with
    | panic v => exact h
    | _ => exact h.elim

theorem wp_round {next : Act → World → Prop} (hd : ∀ c, o.op ≠ .defer c) (h : o.wp P a w next Q) : o.wpIn (Fence.wide.inRound l) n P a w next Q :=
  ⟨fun _ _ => trivial, by rw [Fence.inRound_round, Oper.semAt_some l _ _ hd]; exact upon_round l n _ h⟩

theorem wpAny_round (md : Region.Mode) (hL : ¬ LetsOut Q) (hd : ∀ (i : Nat) (o : Oper), ops[i]? = some o → ∀ c, o.op ≠ .defer c) : ∀ (fuel : Nat) (listed : Array Bool) (a : Act) (w : World),
    wpAny P md ops Q fuel listed a w → wpAnyIn (Fence.wide.inRound l) n P md ops Q fuel listed a w := by
  intro fuel
  induction fuel with
  | zero => exact fun _ _ _ h => h
  | succ fuel ih =>
    intro listed a w h
    refine ⟨h.1, fun i hi => ?_⟩
    have hs := h.2 i hi
    unfold wpOp at hs
    unfold wpOpIn
    cases ho : ops[i]? with
    | none => rw [ho] at hs; exact ih _ _ _ hs
    | some o =>
      rw [ho] at hs
      dsimp only at hs ⊢
      by_cases hw : Region.wanted o (yielded ops a.tmps) = true
      · rw [if_pos hw] at hs ⊢
        rcases hs with hs | hs
        · exact wp_round l n (hd i o ho) (Oper.wp_mono (fun a w hk => ih _ a w hk) hs)
        · exact absurd hs.2 hL
      · rw [if_neg hw] at hs ⊢
        exact ⟨fun _ _ => trivial, ih _ _ _ hs⟩
end

def noDefer (l : List Oper) : Bool := l.all fun o => match o.op with | .defer _ => false | _ => true
theorem noDefer_of {l : List Oper} (h : noDefer l = true) : ∀ (i : Nat) (o : Oper), l.toArray[i]? = some o → ∀ c, o.op ≠ .defer c := by
  intro i o ho c e
  have hm : o ∈ l := by
    have := List.mem_of_getElem? (l := l) (i := i) (a := o) (by simpa using ho)
    exact this
  have := List.all_eq_true.1 h o hm
  rw [e] at this
  cases this

/-- A tail, in one forced order, ends the region; all ahead of it only reads. -/
theorem region_tail_round {P : Program} {id l₀ m : Nat} {Q : Exit → Act → World → Prop} {a : Act} {w : World} {l : List Oper} (n : Nat) (hm : P.follows .mixedOrders = true) (hB : Region.lexTailB .any l.toArray n = true) (hL : ¬ LetsOut Q) (hd : noDefer l = true)
    (h : wpStill P l.toArray w.drew (fun a' => wpList P l.toArray Q (l.drop n) a' w.drew) (l.take n) a) : (Code.region id l.toArray true).wpIn (Fence.wide.inRound l₀) m P Q a w := by
  refine wpIn_region_any hm (wpAny_round l₀ m _ hL (noDefer_of hd) _ _ _ _ ?_)
  simp only [Region.lexTailB, Bool.and_eq_true, decide_eq_true_eq] at hB
  obtain ⟨⟨⟨⟨h1, h2⟩, h3⟩, h4⟩, h5⟩ := hB
  have h2' : n < l.length := by simpa using h2
  have hA : (l.take n).length = n := List.length_take_of_le (by omega)
  have hD : (l.drop n).length = l.toArray.size - n := by simp
  have hI : HeadInv .any l.toArray n (Array.replicate l.toArray.size false) :=
    ⟨by simp, fun j oj _ hl => (by rw [getD_replicate_false] at hl; cases hl), fun t _ ht => getD_in (by simpa using ht) (getD_replicate_false _ _)⟩
  have hX := wpAnyL_lex (md := .any) (g := l.toArray.size - n) h1 h3 h4 h2 (l.take n) 0 _ a (fun j hj => by
    have : j < n := by rw [hA] at hj; exact hj
    simp [this]) (by rw [hA]; omega) hI (by rw [hA]; exact h5) h
  have hY := wpAny_of_head (Q' := Q) (g := l.toArray.size - n) (fun listed a' hl => by
    have hz := wpAny_of_seq (md := .any) (Q' := Q) (l.drop n) n listed a' w.drew (fun j => by simp [List.getElem?_drop]) (by rw [hD]; exact hl.1) hl.2
    rw [hD] at hz; exact hz) _ _ _ hX
  rw [hA, show n + (l.toArray.size - n) = l.toArray.size by omega] at hY
  exact hY

/-- The append, kept shut to the walk's words. -/
def shutApp (ts : Array TypeId) (ty : TypeId) (vs : Array Value) : Sem Value := Builtin.append_ ts ty vs
theorem shut_app (ts : Array TypeId) (ty : TypeId) (vs : Array Value) : Builtin.append_ ts ty vs = shutApp ts ty vs := rfl

/-- append(v, x), x of the cells r, as a run. -/
theorem run_push {P : Program} (W : World) (base : Nat) (t ty e : TypeId) (z : Value) (k bytes : Nat) (ht : P.underlying t = some (.slice e)) (hinfo : (P.info? e).map (fun i => (i.zero, i.size, i.bytes)) = some (some z, k, bytes)) (hzs : z.cells.size = k) (hk : 0 < k) (hb : 0 < bytes)
    (v : Value) (rs : List (List Value)) (r : List Value) (hown : OwnR W base e k v rs) (hr : r.length = k ∧ ∀ u ∈ r, u.oneCell' = true) (hl : (rs.length + 1) * bytes ≤ 140737488355328) (hbase : base ≤ W.heap.size) :
    ∃ A' c' w', (shutApp #[t, t] ty #[v, .slice (some ⟨W.heap.size, 0, none⟩) 1 1]).run P (W.alloc (.cells r.toArray e)) = .ok (.slice A' (rs.length + 1) c') w' ∧ OwnR w' base e k (.slice A' (rs.length + 1) c') (rs ++ [r]) ∧ W.grownBy w' v.ownBlock ∧
      ((Value.slice A' (rs.length + 1) c').ownBlock = v.ownBlock ∨ ∃ g, (Value.slice A' (rs.length + 1) c').ownBlock = some g ∧ W.heap.size ≤ g) := by
  have hlen : rs.length + 1 ≤ 140737488355328 := Nat.le_trans (Nat.le_mul_of_pos_right _ hb) hl
  have hrd := rd_new W e r
  rw [hr.1] at hrd
  obtain ⟨v', w', h1, h2, h3, h4⟩ := run_app (P := P) (W.alloc (.cells r.toArray e)) base t ty e z k bytes ht hinfo hzs hk v _ rs [r] _ (hown.alloc _) hrd (by intro q hq; simp at hq; subst hq; exact hr) (by simpa using hl) (by simpa using hlen) (by simp; omega)
  obtain ⟨A', c', hv⟩ := h2.slice
  rw [List.length_append, List.length_singleton] at hv
  subst hv
  refine ⟨A', c', w', h1, h2, World.grownBy.trans (World.grownBy_alloc W _ _) h3, ?_⟩
  rcases h4 with h4 | h4
  · exact .inl h4
  · exact .inr ⟨_, h4, by simp⟩
end Go.Proofs.Ytcnckmeelcfeeaa
