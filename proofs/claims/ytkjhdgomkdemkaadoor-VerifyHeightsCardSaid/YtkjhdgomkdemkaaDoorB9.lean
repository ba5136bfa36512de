import Derived.Test.YtkjhdgomkdemkaaDoorB8
/-! The checker's cells written anew: the heights, the highest, the stack taken out of the map. -/
namespace Go.Proofs.YtkjhdgomkdemkaaDoor
open Go.RowKit
set_option linter.unusedVariables false
section
variable {w w' : World} {base g m : Nat} {kind : Int} {tv cv : Value} {stk : Int} {sv hv : Value} {n : Nat} {D : DataW Value} {st : List Int} {pend : Pend} {hs : List Int} {high : Int}
theorem CkInv.setHeights (h : CkInv w base g m kind tv cv stk sv hv n D st pend hs high) {hv' : Value} {hs' : List Int} {w1 : World} (hg : w.grownBy w1 hv.ownBlock) (hr : Row w1 base 3 hv' hs')
    (hat : hv'.ownBlock = none ∨ hv'.ownBlock = hv.ownBlock ∨ ∃ x, hv'.ownBlock = some x ∧ w.heap.size ≤ x) :
    CkInv (w1.setCell ⟨g, 6, none⟩ hv') base g m kind tv cv stk sv hv' n D st pend hs' high := by
  obtain ⟨es, clock, hmb⟩ := h.mapBlk
  have hglt := (Array.getElem?_eq_some_iff.1 h.blk).1
  have hg1 : w1.heap[g]? = w.heap[g]? := hg.block g hglt (fun e => h.heights.neg h.blk (by decide) e.symm)
  have hm1 : w1.heap[m]? = w.heap[m]? := hg.block m (Array.getElem?_eq_some_iff.1 hmb).1 (fun e => h.heights.nem hmb e.symm)
  have hset : ∀ x, x ≠ g → (w1.setCell ⟨g, 6, none⟩ hv').heap[x]? = w1.heap[x]? := fun x hx => Below.heap_setCell w1 ⟨g, 6, none⟩ hv' x hx
  have hold : ∀ v l, Row w base 3 v l → Sep v.ownBlock hv.ownBlock → Row (w1.setCell ⟨g, 6, none⟩ hv') base 3 v l := fun v l hv hs => hv.kept (fun x hx => by
    obtain ⟨_, h2, _⟩ := hv.block hx
    rw [hset x (fun e => hv.neg h.blk (by decide) (by rw [hx, e]))]
    exact hg.block x h2 (fun e => by
      rcases hs with hs | hs
      · rw [hs] at hx; cases hx
      · exact hs (by rw [hx, e])))
  have hsep : ∀ v l, Row w base 3 v l → Sep v.ownBlock hv.ownBlock → Sep v.ownBlock hv'.ownBlock := fun v l hv hs => by
    rcases hat with h1 | h1 | ⟨x, h1, h2⟩
    · exact Sep.symm (.inl h1)
    · rw [h1]; exact hs
    · rw [h1]
      refine .inr (fun e => ?_)
      have := (hv.block e).2.1
      omega
  refine ⟨?_, h.hb, h.hm, hold _ _ h.stack h.ap, ?_, ?_, h.isMap, fun k v hv => ?_, h.none_, hsep _ _ h.stack h.ap, fun k v hv => ?_, h.apP⟩
  · have hb := hg1.trans h.blk
    simp [World.setCell, Array.getElem?_modify, hb]
  · exact hr.kept (fun x hx => hset x (fun e => hr.neg (hg1.trans h.blk) (by decide) (by rw [hx, e])))
  · obtain ⟨es, clock, hb, F, hs, hD⟩ := h.map
    exact ⟨es, clock, (hset m h.ne.symm).trans (hm1.trans hb), F, hs, hD⟩
  · obtain ⟨t, h1, h2⟩ := h.pnd k v hv
    exact ⟨t, h1, hold _ _ h2 (h.apS k v hv).2⟩
  · obtain ⟨t, h1, h2⟩ := h.pnd k v hv
    exact ⟨(h.apS k v hv).1, hsep _ _ h2 (h.apS k v hv).2⟩
theorem CkInv.setHigh (h : CkInv w base g m kind tv cv stk sv hv n D st pend hs high) (high' : Int) :
    CkInv (w.setCell ⟨g, 7, none⟩ (.int .i64 high')) base g m kind tv cv stk sv hv n D st pend hs high' := by
  have hset : ∀ x, x ≠ g → (w.setCell ⟨g, 7, none⟩ (.int .i64 high')).heap[x]? = w.heap[x]? := fun x hx => Below.heap_setCell w ⟨g, 7, none⟩ _ x hx
  have hrow : ∀ v l, Row w base 3 v l → Row (w.setCell ⟨g, 7, none⟩ (.int .i64 high')) base 3 v l := fun v l hv => hv.kept (fun x hx => hset x (fun e => hv.neg h.blk (by decide) (by rw [hx, e])))
  refine ⟨?_, h.hb, h.hm, hrow _ _ h.stack, hrow _ _ h.heights, ?_, h.isMap, fun k v hv => ?_, h.none_, h.ap, h.apS, h.apP⟩
  · have hb := h.blk
    simp [World.setCell, Array.getElem?_modify, hb]
  · obtain ⟨es, clock, hb, F, hs, hD⟩ := h.map
    exact ⟨es, clock, (hset m h.ne.symm).trans hb, F, hs, hD⟩
  · obtain ⟨t, h1, h2⟩ := h.pnd k v hv
    exact ⟨t, h1, hrow _ _ h2⟩
/-- What leads here is the stack now, and leads here no more. -/
theorem CkInv.take (h : CkInv w base g m kind tv cv stk sv hv n D st pend hs high) {i : Int} {v : Value} {t : List Int} (hvi : mget D (.int .i64 i) = some v) (ht : pend i = some t) {w1 : World}
    (hown : w1.ownsMap Tryd.prog 3 heldR m n (D.del (.int .i64 i))) (hg : (w.setCell ⟨g, 4, none⟩ v).grownBy w1 (some m)) :
    CkInv w1 base g m kind tv cv stk v hv n (D.del (.int .i64 i)) t (fun k => if k = i then none else pend k) hs high := by
  obtain ⟨es, clock, hmb⟩ := h.mapBlk
  have hglt := (Array.getElem?_eq_some_iff.1 h.blk).1
  have hset : ∀ x, x ≠ g → (w.setCell ⟨g, 4, none⟩ v).heap[x]? = w.heap[x]? := fun x hx => Below.heap_setCell w ⟨g, 4, none⟩ _ x hx
  have hsz : (w.setCell ⟨g, 4, none⟩ v).heap.size = w.heap.size := by simp
  have hrow : ∀ u l, Row w base 3 u l → Row w1 base 3 u l := fun u l hu => hu.kept (fun x hx => by
    rw [hg.block x (by rw [hsz]; exact (hu.block hx).2.1) (fun e => by injection e with e; exact hu.nem hmb (by rw [hx, e]))]
    exact hset x (fun e => hu.neg h.blk (by decide) (by rw [hx, e])))
  obtain ⟨t', ht', hr⟩ := h.pnd i v hvi
  have : t' = t := by rw [ht] at ht'; injection ht' with e; exact e.symm
  subst this
  have hothers : ∀ k u, mget (D.del (.int .i64 i)) (.int .i64 k) = some u → k ≠ i ∧ mget D (.int .i64 k) = some u := fun k u hu => by
    by_cases hk : k = i
    · subst hk; rw [mget_del_same] at hu; cases hu
    · rw [mget_del_other (by simpa using hk)] at hu; exact ⟨hk, hu⟩
  refine ⟨?_, h.hb, h.hm, hrow _ _ hr, hrow _ _ h.heights, hown, h.isMap.del _, fun k u hu => ?_, fun k hk => ?_, (h.apS i v hvi).2, fun k u hu => ?_, fun k k' u u' hkk hu hu' => ?_⟩
  · rw [hg.block g (by rw [hsz]; exact hglt) (fun e => h.ne (by injection e))]
    have hb := h.blk
    simp [World.setCell, Array.getElem?_modify, hb]
  · obtain ⟨hk, hu⟩ := hothers k u hu
    obtain ⟨t2, h1, h2⟩ := h.pnd k u hu
    exact ⟨t2, by simp [hk, h1], hrow _ _ h2⟩
  · by_cases hki : k = i
    · simp [hki]
    · rw [mget_del_other (by simpa using hki)] at hk
      simp [hki, h.none_ k hk]
  · obtain ⟨hk, hu⟩ := hothers k u hu
    exact ⟨h.apP k i u v hk hu hvi, (h.apS k u hu).2⟩
  · exact h.apP k k' u u' hkk (hothers k u hu).2 (hothers k' u' hu').2
theorem Fr.setG7 {base g m : Nat} (w : World) (j : Nat) (u : Value) (hb : base ≤ g) : Fr base g m w (w.setCell ⟨g, j, none⟩ u) := Fr.setG w j u hb
end
end Go.Proofs.YtkjhdgomkdemkaaDoor
