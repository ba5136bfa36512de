import Derived.Test.YtkjhdgomkdemkaaDoorA4
import Derived.Test.YtkjhdgomkdemkaaDoorB0
/-! The checker in memory. -/
namespace Go.Proofs.YtkjhdgomkdemkaaDoor
open Go.RowKit
set_option linter.unusedVariables false


def Sep (a b : Option Nat) : Prop := a = none ∨ a ≠ b
theorem Sep.symm {a b : Option Nat} (h : Sep a b) : Sep b a := by
  rcases h with h | h
  · cases b with
    | none => exact .inl rfl
    | some x => exact .inr (by rw [h]; simp)
  · exact .inr (fun e => h e.symm)

/-- What a checker's work leaves as it was. -/
structure Fr (base g m : Nat) (w w' : World) : Prop where
  os : w'.os = w.os
  tape : w'.tape = w.tape
  output : w'.output = w.output
  size : w.heap.size ≤ w'.heap.size
  low : ∀ k, k < base → k < w.heap.size → w'.heap[k]? = w.heap[k]?
  else_ : ∀ k c T q, k ≠ g → k ≠ m → w.heap[k]? = some (.cells c T q) → T ≠ 3 → w'.heap[k]? = w.heap[k]?
theorem Fr.refl (base g m : Nat) (w : World) : Fr base g m w w := ⟨rfl, rfl, rfl, Nat.le_refl _, fun _ _ _ => rfl, fun _ _ _ _ _ _ _ _ => rfl⟩
theorem Fr.trans {base g m : Nat} {w w1 w2 : World} (h : Fr base g m w w1) (h2 : Fr base g m w1 w2) : Fr base g m w w2 :=
  ⟨h2.os.trans h.os, h2.tape.trans h.tape, h2.output.trans h.output, Nat.le_trans h.size h2.size,
    fun k hk hl => (h2.low k hk (Nat.lt_of_lt_of_le hl h.size)).trans (h.low k hk hl),
    fun k c T q hg hm hc hT => (h2.else_ k c T q hg hm ((h.else_ k c T q hg hm hc hT).trans hc) hT).trans (h.else_ k c T q hg hm hc hT)⟩
theorem Fr.drewN (base g m : Nat) (w : World) (n : Nat) : Fr base g m w (w.drewN n) := ⟨rfl, rfl, rfl, Nat.le_refl _, fun _ _ _ => rfl, fun _ _ _ _ _ _ _ _ => rfl⟩
theorem Fr.alloc (base g m : Nat) (w : World) (o : Obj) : Fr base g m w (w.alloc o) :=
  ⟨rfl, rfl, rfl, by simp, fun k _ hl => heap_alloc_old w o hl, fun k c T q _ _ hc _ => heap_alloc_old w o (Array.getElem?_eq_some_iff.1 hc).1⟩
theorem Fr.setG {base g m : Nat} (w : World) (j : Nat) (u : Value) (hb : base ≤ g) : Fr base g m w (w.setCell ⟨g, j, none⟩ u) :=
  ⟨rfl, rfl, rfl, by simp, fun k hk _ => Below.heap_setCell w ⟨g, j, none⟩ u k (by show k ≠ g; omega), fun k c T q hg _ _ _ => Below.heap_setCell w ⟨g, j, none⟩ u k hg⟩
theorem Fr.grown {base g m : Nat} {w w' : World} {row : Option Nat} (hg : w.grownBy w' row) (hr : ∀ k, row = some k → base ≤ k ∧ ∃ cur, w.heap[k]? = some (.cells cur 3 (0, 0))) : Fr base g m w w' :=
  ⟨hg.os, hg.tape, hg.output, hg.size, fun k hk hl => hg.block k hl (fun e => by have := (hr k e.symm).1; omega),
    fun k c T q _ _ hc hT => hg.block k (Array.getElem?_eq_some_iff.1 hc).1 (fun e => by
      obtain ⟨_, cur, h2⟩ := hr k e.symm
      rw [hc] at h2
      injection h2 with h2
      injection h2 with _ h3
      exact hT h3)⟩
theorem Fr.grownM {base g m : Nat} {w w' : World} (hg : w.grownBy w' (some m)) (hb : base ≤ m) : Fr base g m w w' :=
  ⟨hg.os, hg.tape, hg.output, hg.size, fun k hk hl => hg.block k hl (fun e => by injection e; omega), fun k c T q _ hm hc _ => hg.block k (Array.getElem?_eq_some_iff.1 hc).1 (fun e => hm (by injection e))⟩
theorem Fr.below {base g m : Nat} {w w' : World} (h : Fr base g m w w') (hb : base ≤ w.heap.size) : Below base w w' :=
  ⟨h.os, h.tape, h.output, h.size, fun k hk => h.low k hk (by omega)⟩

structure CkInv (w : World) (base g m : Nat) (kind : Int) (tv cv : Value) (stk : Int) (sv hv : Value) (n : Nat) (D : DataW Value) (st : List Int) (pend : Pend) (hs : List Int) (high : Int) : Prop where
  blk : w.heap[g]? = some (.cells #[.int .u8 kind, tv, cv, .int .i64 stk, sv, .map (some m), hv, .int .i64 high] 65 (0, 0))
  hb : base ≤ g
  hm : base ≤ m
  stack : Row w base 3 sv st
  heights : Row w base 3 hv hs
  map : w.ownsMap Tryd.prog 3 heldR m n D
  isMap : Maps.IsMap D
  pnd : ∀ k v, mget D (.int .i64 k) = some v → ∃ t, pend k = some t ∧ Row w base 3 v t
  none_ : ∀ k, mget D (.int .i64 k) = none → pend k = none
  ap : Sep sv.ownBlock hv.ownBlock
  apS : ∀ k v, mget D (.int .i64 k) = some v → Sep v.ownBlock sv.ownBlock ∧ Sep v.ownBlock hv.ownBlock
  apP : ∀ k k' v v', k ≠ k' → mget D (.int .i64 k) = some v → mget D (.int .i64 k') = some v' → Sep v.ownBlock v'.ownBlock
def CkAt (w : World) (base g m : Nat) (kind : Int) (tv cv : Value) (stk : Int) (n : Nat) (st : List Int) (pend : Pend) (hs : List Int) (high : Int) : Prop :=
  ∃ sv hv D, CkInv w base g m kind tv cv stk sv hv n D st pend hs high

section
variable {w w' : World} {base g m : Nat} {kind : Int} {tv cv : Value} {stk : Int} {sv hv : Value} {n : Nat} {D : DataW Value} {st : List Int} {pend : Pend} {hs : List Int} {high : Int}
theorem CkInv.mapBlk (h : CkInv w base g m kind tv cv stk sv hv n D st pend hs high) : ∃ es clock, w.heap[m]? = some (.map es clock) := by
  obtain ⟨es, clock, hb, _⟩ := h.map
  exact ⟨es, clock, hb⟩
theorem CkInv.ne (h : CkInv w base g m kind tv cv stk sv hv n D st pend hs high) : g ≠ m := by
  intro e
  obtain ⟨es, clock, hb⟩ := h.mapBlk
  have h1 := h.blk
  rw [e, hb] at h1
  cases h1
theorem Row.neg {v : Value} {l : List Int} (h : Row w base 3 v l) {x : Nat} {c : Array Value} {T : TypeId} (hx : w.heap[x]? = some (.cells c T (0, 0))) (hT : T ≠ 3) : v.ownBlock ≠ some x := by
  intro e
  obtain ⟨_, _, cur, hc⟩ := h.block e
  rw [hx] at hc
  injection hc with hc
  injection hc with _ h2
  exact hT h2
theorem Row.nem {v : Value} {l : List Int} (h : Row w base 3 v l) {x : Nat} {es : Array MapEntry} {c : Nat} (hx : w.heap[x]? = some (.map es c)) : v.ownBlock ≠ some x := by
  intro e
  obtain ⟨_, _, cur, hc⟩ := h.block e
  rw [hx] at hc
  cases hc
/-- All blocks that matter are as they were. -/
theorem CkInv.move (h : CkInv w base g m kind tv cv stk sv hv n D st pend hs high)
    (hk : ∀ k, k < w.heap.size → base ≤ k → w'.heap[k]? = w.heap[k]?) : CkInv w' base g m kind tv cv stk sv hv n D st pend hs high := by
  obtain ⟨es, clock, hmb⟩ := h.mapBlk
  have hrow : ∀ v l, Row w base 3 v l → Row w' base 3 v l := fun v l hr => hr.kept (fun x hx => by
    obtain ⟨h1, h2, _⟩ := hr.block hx
    exact hk x h2 h1)
  refine ⟨(hk g (Array.getElem?_eq_some_iff.1 h.blk).1 h.hb).trans h.blk, h.hb, h.hm, hrow _ _ h.stack, hrow _ _ h.heights, ?_, h.isMap, fun k v hv => ?_, h.none_, h.ap, h.apS, h.apP⟩
  · obtain ⟨es, clock, hb, F, hs, hD⟩ := h.map
    exact ⟨es, clock, (hk m (Array.getElem?_eq_some_iff.1 hb).1 h.hm).trans hb, F, hs, hD⟩
  · obtain ⟨t, h1, h2⟩ := h.pnd k v hv
    exact ⟨t, h1, hrow _ _ h2⟩
theorem CkInv.alloc (h : CkInv w base g m kind tv cv stk sv hv n D st pend hs high) (o : Obj) : CkInv (w.alloc o) base g m kind tv cv stk sv hv n D st pend hs high :=
  h.move (fun k hk _ => heap_alloc_old w o hk)
theorem CkInv.drewN (h : CkInv w base g m kind tv cv stk sv hv n D st pend hs high) (q : Nat) : CkInv (w.drewN q) base g m kind tv cv stk sv hv n D st pend hs high :=
  h.move (fun k hk _ => rfl)
theorem CkInv.drew (h : CkInv w base g m kind tv cv stk sv hv n D st pend hs high) : CkInv w.drew base g m kind tv cv stk sv hv n D st pend hs high :=
  h.move (fun k hk _ => rfl)
theorem CkInv.cell (h : CkInv w base g m kind tv cv stk sv hv n D st pend hs high) :
    w.cell? ⟨g, 0, none⟩ = some (.int .u8 kind) ∧ w.cell? ⟨g, 1, none⟩ = some tv ∧ w.cell? ⟨g, 2, none⟩ = some cv ∧ w.cell? ⟨g, 3, none⟩ = some (.int .i64 stk) ∧ w.cell? ⟨g, 4, none⟩ = some sv ∧
    w.cell? ⟨g, 5, none⟩ = some (.map (some m)) ∧ w.cell? ⟨g, 6, none⟩ = some hv ∧ w.cell? ⟨g, 7, none⟩ = some (.int .i64 high) := by
  have hb := h.blk
  refine ⟨?_, ?_, ?_, ?_, ?_, ?_, ?_, ?_⟩ <;> (rw [cell_of_row w g _ _ _ _ hb]; rfl)
theorem CkInv.frozen (h : CkInv w base g m kind tv cv stk sv hv n D st pend hs high) (j : Nat) : w.frozen? ⟨g, j, none⟩ = false := by
  have hb := h.blk
  simp [World.frozen?, hb]
/-- The stack is another row now: the old one, written, or a new one. -/
theorem CkInv.setStack (h : CkInv w base g m kind tv cv stk sv hv n D st pend hs high) {sv' : Value} {st' : List Int} {w1 : World} (hg : w.grownBy w1 sv.ownBlock) (hr : Row w1 base 3 sv' st')
    (hat : sv'.ownBlock = none ∨ sv'.ownBlock = sv.ownBlock ∨ ∃ x, sv'.ownBlock = some x ∧ w.heap.size ≤ x) :
    CkInv (w1.setCell ⟨g, 4, none⟩ sv') base g m kind tv cv stk sv' hv n D st' pend hs high := by
  obtain ⟨es, clock, hmb⟩ := h.mapBlk
  have hglt := (Array.getElem?_eq_some_iff.1 h.blk).1
  have hg1 : w1.heap[g]? = w.heap[g]? := hg.block g hglt (fun e => h.stack.neg h.blk (by decide) e.symm)
  have hm1 : w1.heap[m]? = w.heap[m]? := hg.block m (Array.getElem?_eq_some_iff.1 hmb).1 (fun e => h.stack.nem hmb e.symm)
  have hset : ∀ x, x ≠ g → (w1.setCell ⟨g, 4, none⟩ sv').heap[x]? = w1.heap[x]? := fun x hx => Below.heap_setCell w1 ⟨g, 4, none⟩ sv' x hx
  have hold : ∀ v l, Row w base 3 v l → Sep v.ownBlock sv.ownBlock → Row (w1.setCell ⟨g, 4, none⟩ sv') base 3 v l := fun v l hv hs => hv.kept (fun x hx => by
    obtain ⟨_, h2, _⟩ := hv.block hx
    rw [hset x (fun e => hv.neg h.blk (by decide) (by rw [hx, e]))]
    exact hg.block x h2 (fun e => by
      rcases hs with hs | hs
      · rw [hs] at hx; cases hx
      · exact hs (by rw [hx, e])))
  have hsep : ∀ v l, Row w base 3 v l → Sep v.ownBlock sv.ownBlock → Sep v.ownBlock sv'.ownBlock := fun v l hv hs => by
    rcases hat with h1 | h1 | ⟨x, h1, h2⟩
    · exact Sep.symm (.inl h1)
    · rw [h1]; exact hs
    · rw [h1]
      refine .inr (fun e => ?_)
      have := (hv.block e).2.1
      omega
  refine ⟨?_, h.hb, h.hm, ?_, hold _ _ h.heights h.ap.symm, ?_, h.isMap, fun k v hv => ?_, h.none_, (hsep _ _ h.heights h.ap.symm).symm, fun k v hv => ?_, h.apP⟩
  · have hb := hg1.trans h.blk
    simp [World.setCell, Array.getElem?_modify, hb]
  · exact hr.kept (fun x hx => hset x (fun e => hr.neg (hg1.trans h.blk) (by decide) (by rw [hx, e])))
  · obtain ⟨es, clock, hb, F, hs, hD⟩ := h.map
    exact ⟨es, clock, (hset m h.ne.symm).trans (hm1.trans hb), F, hs, hD⟩
  · obtain ⟨t, h1, h2⟩ := h.pnd k v hv
    exact ⟨t, h1, hold _ _ h2 (h.apS k v hv).1⟩
  · obtain ⟨t, h1, h2⟩ := h.pnd k v hv
    exact ⟨hsep _ _ h2 (h.apS k v hv).1, (h.apS k v hv).2⟩
end
end Go.Proofs.YtkjhdgomkdemkaaDoor
