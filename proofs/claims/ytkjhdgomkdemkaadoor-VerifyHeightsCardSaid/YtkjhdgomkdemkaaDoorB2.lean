import Derived.Test.YtkjhdgomkdemkaaDoorB1
/-! The checker's stack: what lies on top, things off and others on. -/
namespace Go.Proofs.YtkjhdgomkdemkaaDoor
open Go.RowKit
set_option linter.unusedVariables false

theorem infoInt : (Tryd.prog.info? 3).map (fun i => (i.zero, i.size, i.bytes)) = some (some (.int .i64 0), 1, 8) := by kernel_rfl

theorem ownBlock_slice (A : Option Addr) (n c n' c' : Nat) : (Value.slice A n c).ownBlock = (Value.slice A n' c').ownBlock := by cases A <;> rfl
section
variable {w w' : World} {base g m : Nat} {kind : Int} {tv cv : Value} {stk : Int} {sv hv : Value} {n : Nat} {D : DataW Value} {st : List Int} {pend : Pend} {hs : List Int} {high : Int}

set_option maxHeartbeats 1000000 in
theorem swap1_walk (h : CkInv w base g m kind tv cv stk sv hv n D st pend hs high) (k : Nat) (hk : k ≤ st.length) (y : Int) (pb : Nat) (hy : w.cell? ⟨pb, 0, none⟩ = some (.int .i64 y)) (hl : st.length ≤ 1000000) (hbase : base ≤ w.heap.size) :
    Calls Tryd.prog 63 #[.pointer (some ⟨g, 0, none⟩), .int .i64 k, .slice (some ⟨pb, 0, none⟩) 1 1] w fun e w' =>
      e = .returned (.bool true) ∧ CkAt w' base g m kind tv cv stk n (swapS st k [y]) pend hs high ∧ Fr base g m w w' := by
  obtain ⟨i0, hi0, hz0, hz1, hz2⟩ := info_parts infoInt
  obtain ⟨A, cap, rfl, hc1, hc2⟩ := h.stack.slice
  have H := Lib.hid h
  have hc4 := h.cell.2.2.2.2.1
  have hf4 := h.frozen 4
  have hx : ((st.length : Int) - k).toNat = st.length - k := by omega
  have hx0 : 0 ≤ (st.length : Int) - k := by omega
  have hx1 : (st.length : Int) - k ≤ cap := by omega
  have HT : Hid (Row w.drew base 3 (.slice A (st.length - k) cap) (st.take (st.length - k))) := Lib.hid ((h.stack.take (by omega)).kept (fun _ _ => rfl))
  have hlt : Hid ((st.take (st.length - k)).length = st.length - k) := Lib.hid (by rw [List.length_take]; omega)
  unfold maxLen at hc2
  generalize hL : st.length = L at *
  have HL := Lib.hid hL
  clear hL
  have hwr : IntKind.i64.wrap ((L : Int) - (k : Int)) = (L : Int) - (k : Int) := by rw [IntKind.wrap_i64]; omega
  have hnews : Hid (∀ j u, [Value.int .i64 y][j]? = some u → w.drew.cell? ((⟨pb, 0, none⟩ : Addr).add j) = some u) := Lib.hid (by
    intro j u hu
    cases j with
    | zero => simp at hu; subst hu; exact hy
    | succ j => simp at hu)
  have h1c : Hid (∀ u ∈ [Value.int .i64 y], u.oneCell' = true) := Lib.hid (by intro u hu; simp at hu; subst hu; rfl)
  have ho : Hid (w.drew.ownsRow base 3 1 (.slice A (L - k) cap) (L - k) (ints (st.take (L - k)))) := Lib.hid (by have := HT.out; unfold Row at this; rw [hlt.out] at this; exact this)
  have hg8 : g < w.heap.size := (Array.getElem?_eq_some_iff.1 h.blk).1
  have hgA : (Value.slice A (L - k) cap).ownBlock ≠ some g := fun e => h.stack.neg h.blk (by decide) ((ownBlock_slice A _ _ _ _).trans e)
  have HgA := Lib.hid hgA
  clear h hgA HT
  go_enter Tryd.func63, Tryd.ntmps63
  go_wp2
  go_region_law (refine step_append_lies _ rfl (.tmp 19) (.tmp 20) 31 rfl base 3 i0 (.int .i64 0) 1 8 Tryd.underlying31 hi0 hz0 hz1 hz2 rfl (by decide) (.slice A (L - k) cap) (L - k) (ints (st.take (L - k))) (by simp [Act.eval, Act.put]) ho.out ⟨pb, 0, none⟩ 1 1 [.int .i64 y] (by simp [Act.eval, Act.put]) rfl hnews.out h1c.out (by omega) (by unfold maxLen; omega) (by omega) hbase w.heap.size rfl ?_; intro gx cx w1 ho1 hg1 hat1 hlt1; have hc5 := (hg1.cell_far ⟨g, 4, none⟩ hg8 (fun e => HgA.out e.symm)).trans hc4; have hf5 := (hg1.frozen_far ⟨g, 4, none⟩ hg8 (fun e => HgA.out e.symm)).trans hf4)
  all_goals go_wp2
  all_goals go_ret
  all_goals
    have hrow : Row w1 base 3 (.slice (some ⟨gx, 0, none⟩) (L - k + 1) cx) (swapS st k [y]) := by
      have e1 : (swapS st k [y]).length = L - k + 1 := by unfold swapS; rw [HL.out, List.length_append, hlt.out]; rfl
      unfold Row
      rw [e1]
      unfold swapS
      rw [ints_append, HL.out]
      exact ho1
    have hgr : w.drew.grownBy w1 (Value.slice A L cap).ownBlock := by rw [ownBlock_slice A L cap (L - k) cap]; exact hg1
    refine ⟨rfl, ⟨_, _, _, H.out.drew.setStack hgr hrow ?_⟩, ?_⟩
    · rcases hat1 with e | e
      · exact .inr (.inl (by rw [ownBlock_slice A L cap (L - k) cap, e]; rfl))
      · exact .inr (.inr ⟨gx, rfl, by rw [e]; exact Nat.le_refl _⟩)
    · exact ((Fr.drewN base g m w 1).trans (Fr.grown hgr (fun x hx => by obtain ⟨a1, _, a3⟩ := H.out.drew.stack.block hx; exact ⟨a1, a3⟩))).trans (Fr.setG _ _ _ H.out.hb)
set_option maxHeartbeats 1000000 in
theorem swap0_walk (h : CkInv w base g m kind tv cv stk sv hv n D st pend hs high) (k : Nat) (hk : k ≤ st.length) (hl : st.length ≤ 1000000) (hbase : base ≤ w.heap.size) :
    Calls Tryd.prog 63 #[.pointer (some ⟨g, 0, none⟩), .int .i64 k, .slice none 0 0] w fun e w' =>
      e = .returned (.bool true) ∧ CkAt w' base g m kind tv cv stk n (swapS st k []) pend hs high ∧ Fr base g m w w' := by
  obtain ⟨A, cap, rfl, hc1, hc2⟩ := h.stack.slice
  have H := Lib.hid h
  have hc4 := h.cell.2.2.2.2.1
  have hf4 := h.frozen 4
  have hx : ((st.length : Int) - k).toNat = st.length - k := by omega
  have hx0 : 0 ≤ (st.length : Int) - k := by omega
  have hx1 : (st.length : Int) - k ≤ cap := by omega
  have HT : Hid (Row w base 3 (.slice A (st.length - k) cap) (st.take (st.length - k))) := Lib.hid ((h.stack.take (by omega)))
  unfold maxLen at hc2
  generalize hL : st.length = L at *
  have HL := Lib.hid hL
  clear hL
  have hwr : IntKind.i64.wrap ((L : Int) - (k : Int)) = (L : Int) - (k : Int) := by rw [IntKind.wrap_i64]; omega
  have hlk : L ≤ cap + k := by omega
  have hgr : Hid (w.drew.grownBy w.drew (Value.slice A L cap).ownBlock) := Lib.hid ⟨rfl, rfl, rfl, Nat.le_refl _, fun _ _ _ => rfl⟩
  clear h
  cases A
  all_goals
    go_enter Tryd.func63, Tryd.ntmps63
    go_wp2
    go_region
    all_goals go_wp2
    all_goals go_ret
    all_goals
      refine ⟨rfl, ⟨_, _, _, H.out.drew.setStack hgr.out ?_ (.inr (.inl rfl))⟩, ?_⟩
      · have := HT.out
        unfold swapS
        rw [HL.out, List.append_nil]
        exact this.kept (fun _ _ => rfl)
      · exact (Fr.drewN base g m w 1).trans (Fr.setG _ _ _ H.out.hb)
end
end Go.Proofs.YtkjhdgomkdemkaaDoor
