import Derived.Test.YtkjhdgomkdemkaaDoorB3
/-! What leads to a later instruction. -/
namespace Go.Proofs.YtkjhdgomkdemkaaDoor
open Go.RowKit
set_option linter.unusedVariables false

theorem lawInt : Go.Maps.Keyed Tryd.prog 3 := Go.Maps.int_keyed Tryd.underlying3
theorem zeroInts (w : World) : (zeroValue 31).run Tryd.prog w = .ok (.slice none 0 0) w := by kernel_rfl
theorem keyInt {a : Int} (h0 : 0 ≤ a) (h1 : a ≤ 9223372036854775807) : keyOf Tryd.prog 3 (.int .i64 a) = some (.int .i64 a) :=
  Go.Maps.keyOf_int_mk Tryd.underlying3 (WalkArith.wf_i64 (by omega))
theorem isKeyInt (a : Int) : WideAt.IsKeyLit (.int .i64 a) := trivial
theorem infoInt' : (Tryd.prog.info? 3).map (fun i => (i.zero, i.size, i.bytes)) = some (some (.int .i64 0), 1, 8) := by kernel_rfl

section
variable {w w' : World} {base g m : Nat} {kind : Int} {tv cv : Value} {stk : Int} {sv hv : Value} {n : Nat} {D : DataW Value} {st : List Int} {pend : Pend} {hs : List Int} {high : Int}
theorem CkInv.store {w0 w w2 : World} (h : CkInv w0 base g m kind tv cv stk sv hv n D st pend hs high) (hb : ∀ k, k < w0.heap.size → w.heap[k]? = w0.heap[k]?) {v' : Value} {t' : List Int} {a : Int}
    (hr : Row w base 3 v' t') (hfresh : ∀ x, v'.ownBlock = some x → w0.heap.size ≤ x) (hm2 : w2.ownsMap Tryd.prog 3 heldR m (n + 1) (D.put (.int .i64 a) (.held v'))) (hg : w.grownBy w2 (some m)) :
    CkInv w2 base g m kind tv cv stk sv hv (n + 1) (D.put (.int .i64 a) (.held v')) st (fun k => if k = a then some t' else pend k) hs high := by
  have hw := h.move (w' := w) (fun k hk _ => hb k hk)
  obtain ⟨es, clock, hmb⟩ := h.mapBlk
  have hmb' := (hb m (Array.getElem?_eq_some_iff.1 hmb).1).trans hmb
  have hne := h.ne
  have hrow : ∀ v l, Row w base 3 v l → Row w2 base 3 v l := fun v l hv => hv.kept (fun x hx => hg.block x (hv.block hx).2.1 (fun e => by
    injection e with e
    exact hv.nem hmb' (by rw [hx, e])))
  have hold : ∀ v l, Row w0 base 3 v l → Sep v.ownBlock v'.ownBlock := fun v l hv => by
    cases he : v.ownBlock with
    | none => exact .inl rfl
    | some x =>
      refine .inr (fun e => ?_)
      have h1 := (hv.block he).2.1
      have h2 := hfresh x e.symm
      omega
  refine ⟨(hg.block g (Array.getElem?_eq_some_iff.1 hw.blk).1 (fun e => hne (by injection e))).trans hw.blk, h.hb, h.hm, hrow _ _ hw.stack, hrow _ _ hw.heights, hm2, h.isMap.put _ _, fun k v hv => ?_, fun k hk => ?_, h.ap, fun k v hv => ?_, fun k k' v u hkk hv hu => ?_⟩
  · by_cases hk : k = a
    · subst hk
      rw [mget_put_same h.isMap (isKeyInt _)] at hv
      injection hv with hv
      subst hv
      exact ⟨t', by simp, hrow _ _ hr⟩
    · rw [mget_put_other (by simpa using hk)] at hv
      obtain ⟨t, h1, h2⟩ := hw.pnd k v hv
      exact ⟨t, by simp [hk, h1], hrow _ _ h2⟩
  · by_cases hk' : k = a
    · subst hk'
      rw [mget_put_same h.isMap (isKeyInt _)] at hk
      cases hk
    · rw [mget_put_other (by simpa using hk')] at hk
      simp [hk', h.none_ k hk]
  · by_cases hk : k = a
    · subst hk
      rw [mget_put_same h.isMap (isKeyInt _)] at hv
      injection hv with hv
      subst hv
      exact ⟨(hold _ _ h.stack).symm, (hold _ _ h.heights).symm⟩
    · rw [mget_put_other (by simpa using hk)] at hv
      exact h.apS k v hv
  · by_cases hk : k = a
    · subst hk
      rw [mget_put_same h.isMap (isKeyInt _)] at hv
      injection hv with hv
      subst hv
      rw [mget_put_other (by simpa using hkk.symm)] at hu
      obtain ⟨t, _, h2⟩ := h.pnd k' u hu
      exact (hold _ _ h2).symm
    · rw [mget_put_other (by simpa using hk)] at hv
      by_cases hk' : k' = a
      · subst hk'
        rw [mget_put_same h.isMap (isKeyInt _)] at hu
        injection hu with hu
        subst hu
        obtain ⟨t, _, h2⟩ := h.pnd k v hv
        exact hold _ _ h2
      · rw [mget_put_other (by simpa using hk')] at hu
        exact h.apP k k' v u hkk hv hu
theorem Row.ints {v : Value} {l : List Int} (h : Row w base 3 v l) : IntsAt w v l := h.reads

theorem clone_nil (c : Nat) (w : World) : Calls Tryd.prog 80 #[.slice none 0 c] w fun e w' => e = .returned (.slice none 0 0) ∧ w = w' := by
  have hq := fun w => Lib.run_eql_slice_nil (P := Tryd.prog) w 31 3 none 0 c 0 0 Tryd.underlying31
  go_enter Tryd.func80, Tryd.ntmps80
  go_wp2
  go_ret
  exact ⟨rfl, rfl⟩
theorem clone_some (b off n c : Nat) (l : List Int) (w : World) (hn : l.length = n) (hl : n ≤ 1000000) (hc : ∀ j, j < n → w.cell? ⟨b, off + j, none⟩ = some (.int .i64 (l.getD j 0))) (base : Nat) (hb : base ≤ w.heap.size) :
    Calls Tryd.prog 80 #[.slice (some ⟨b, off, none⟩) n c] w fun e w' => ∃ v', e = .returned v' ∧ Row w' base 3 v' l ∧ (∀ x, v'.ownBlock = some x → w.heap.size ≤ x) ∧ Below w.heap.size w w' := by
  have hq := fun w => Lib.run_eql_slice_nil (P := Tryd.prog) w 31 3 (some ⟨b, off, none⟩) n c 0 0 Tryd.underlying31
  obtain ⟨i0, hi0, hz0, hz1, hz2⟩ := info_parts infoInt'
  have ho : Hid ((w.alloc (.cells #[] 3)).ownsRow base 3 1 (.slice (some ⟨w.heap.size, 0, none⟩) 0 0) 0 []) := Lib.hid (World.ownsRow_made w #[] 0 hb (by decide) rfl)
  have hlen : Hid ((ints l).length = n * 1) := Lib.hid (by rw [ints_length, hn]; omega)
  have hnews : Hid (∀ j u, (ints l)[j]? = some u → (w.alloc (.cells #[] 3)).cell? ((⟨b, off, none⟩ : Addr).add j) = some u) := Lib.hid (by
    intro j u hu
    have hj : j < n := by
      have := (List.getElem?_eq_some_iff.1 hu).1
      rw [ints_length, hn] at this
      exact this
    have h1 := hc j hj
    have hu' : u = .int .i64 (l.getD j 0) := by
      rw [ints, List.getElem?_map] at hu
      obtain ⟨x, hx, rfl⟩ := Option.map_eq_some_iff.1 hu
      simp [List.getD_eq_getElem?_getD, hx]
    rw [Addr.add_lit, hu']
    exact cell_below (below_al (Below.refl _ _) _) h1)
  have h1c := Lib.hid (ints_one l)
  have Hn := Lib.hid hn
  clear hc hn
  go_enter Tryd.func80, Tryd.ntmps80
  go_wp2_with (at_builtin; refine wpList_append_own_at _ rfl (.tmp 5) (.tmp 6) 31 rfl base 3 i0 (.int .i64 0) 1 8 Tryd.underlying31 hi0 hz0 hz1 hz2 rfl (by decide) (.slice (some ⟨w.heap.size, 0, none⟩) 0 0) 0 [] rfl ho.out ⟨b, off, none⟩ n c (ints l) rfl hlen.out hnews.out h1c.out (by unfold maxLen; omega) (by omega) (by simp; omega) ?_; intro v' w1 hown1 hgrow1 hnil1 hloc1)
  go_ret
  refine ⟨v', rfl, ?_, fun x hx => ?_, (below_al (Below.refl _ _) _).grown hgrow1 (by simp) (fun k hk => by simp [Value.ownBlock] at hk; omega)⟩
  · unfold Row
    rw [Hn.out]
    rw [Nat.zero_add, List.nil_append] at hown1
    exact hown1
  · rcases hloc1 with e | e
    · rw [e] at hx
      have : w.heap.size = x := by simpa [Value.ownBlock] using hx
      omega
    · rw [e] at hx
      simp at hx
      omega
theorem clone_any (base' : Nat) (v : Value) (l : List Int) (w : World) (hv : Row w base' 3 v l) (hl : l.length ≤ 1000000) (base : Nat) (hb : base ≤ w.heap.size) :
    Calls Tryd.prog 80 #[v] w fun e w' => ∃ v', e = .returned v' ∧ Row w' base 3 v' l ∧ (∀ x, v'.ownBlock = some x → w.heap.size ≤ x) ∧ Below w.heap.size w w' := by
  have hr := hv.reads
  rcases hv.2 with ⟨rfl, h0⟩ | ⟨g, cap, cur, rfl, _⟩
  · refine (clone_nil 0 w).mono ?_
    rintro e w' ⟨rfl, rfl⟩
    have hl0 : l = [] := List.eq_nil_of_length_eq_zero h0
    subst hl0
    exact ⟨_, rfl, Row.nil _ _ _, fun x hx => by simp [Value.ownBlock] at hx, Below.refl _ _⟩
  · obtain ⟨A, c, he, h1, h2, h3⟩ := hr
    injection he with e1 e2 e3
    refine clone_some g 0 _ cap l w rfl hl (fun j hj => ?_) base hb
    obtain ⟨b, off, e4, hc⟩ := h3 (by omega)
    rw [← e1] at e4
    injection e4 with e4
    injection e4 with e5 e6
    rw [e5, e6]
    exact hc j hj
end
section
variable {w w' : World} {base g m : Nat} {kind : Int} {tv cv : Value} {stk : Int} {sv hv : Value} {n : Nat} {D : DataW Value} {st : List Int} {pend : Pend} {hs : List Int} {high : Int}
theorem forward_none (h : CkInv w base g m kind tv cv stk sv hv n D st pend hs high) (i a : Int) (A : Option Addr) (len cap : Nat) (hcv : cv = .slice A len cap) (ha : a ≤ i ∨ (len : Int) ≤ a) :
    Calls Tryd.prog 66 #[.pointer (some ⟨g, 0, none⟩), .int .i64 i, .int .i64 a, sv] w fun e w' => e = .returned (.bool false) ∧ w = w' := by
  subst hcv
  have hc2 := h.cell.2.2.1
  clear h
  by_cases h1 : a ≤ i
  · go_enter Tryd.func66, Tryd.ntmps66
    go_wp2
    go_ret
    exact ⟨rfl, rfl⟩
  · have h2 : (len : Int) ≤ a := by omega
    clear ha
    go_enter Tryd.func66, Tryd.ntmps66
    go_wp2
    go_ret
    exact ⟨rfl, rfl⟩
set_option maxHeartbeats 1000000 in
set_option maxRecDepth 100000 in
theorem forward_same (h : CkInv w base g m kind tv cv stk sv hv n D st pend hs high) (i a : Int) (A : Option Addr) (len cap : Nat) (hcv : cv = .slice A len cap) (hi : 0 ≤ i) (h1 : i < a) (h2 : a < (len : Int)) (hlen : len ≤ 1000000)
    (v : Value) (t : List Int) (hm : mget D (.int .i64 a) = some v) (hv' : Row w base 3 v t) (ht : t = st) :
    Calls Tryd.prog 66 #[.pointer (some ⟨g, 0, none⟩), .int .i64 i, .int .i64 a, sv] w fun e w' => e = .returned (.bool true) ∧ ∃ q, w' = w.drewN q := by
  subst hcv
  have hc2 := h.cell.2.2.1
  have hc5 := h.cell.2.2.2.2.2.1
  have hmap := Lib.hid h.map
  have hkey := Lib.hid (keyInt (a := a) (by omega) (by omega))
  have he := Lib.hid (eqInt_any v sv t st w hv'.ints h.stack.ints)
  have HM := Lib.hid hm
  have Ht := Lib.hid ht
  clear h hm hv' ht
  go_enter Tryd.func66, Tryd.ntmps66
  go_wp2_with (first | (at_lookup; refine wpList_lookup_held _ rfl _ _ 63 rfl 3 31 lawInt Tryd.underlying63 (.slice none 0 0) (zeroInts _) m n D rfl hmap.out _ _ rfl hkey.out (some v) HM.out ?_) | (go_at_call 44; refine (he.out).mono ?_; rintro e w' ⟨rfl, q, rfl⟩; rw [Ht.out]; rw [decide_eq_true rfl]))
  go_ret
  exact ⟨rfl, _, rfl⟩
theorem ints_ne {n : Nat} (hn : n ≤ 1000000) : n < maxLen := by unfold maxLen; omega
/-- A one cell row, just made. -/
theorem Row.one (w : World) (y : Int) (hb : base ≤ w.heap.size) : Row (w.alloc (.cells #[.int .i64 y] 3)) base 3 (.slice (some ⟨w.heap.size, 0, none⟩) 1 1) [y] := by
  refine ⟨rfl, .inr ⟨w.heap.size, 1, #[.int .i64 y], rfl, hb, ?_, Nat.le_refl _, by decide, rfl, rfl⟩⟩
  exact (MapKept.heap_alloc w _).1
set_option maxHeartbeats 1000000 in
set_option maxRecDepth 100000 in
theorem forward_diff (h : CkInv w base g m kind tv cv stk sv hv n D st pend hs high) (i a : Int) (A : Option Addr) (len cap : Nat) (hcv : cv = .slice A len cap) (hi : 0 ≤ i) (h1 : i < a) (h2 : a < (len : Int)) (hlen : len ≤ 1000000) (hn : n ≤ 1000000) (hbase : base ≤ w.heap.size)
    (v : Value) (t : List Int) (hm : mget D (.int .i64 a) = some v) (hv' : Row w base 3 v t) (ht : t ≠ st) :
    Calls Tryd.prog 66 #[.pointer (some ⟨g, 0, none⟩), .int .i64 i, .int .i64 a, sv] w fun e w' => e = .returned (.bool true) ∧ CkAt w' base g m kind tv cv stk (n + 1) st (fun k => if k = a then some [0] else pend k) hs high ∧ Fr base g m w w' := by
  subst hcv
  have H := Lib.hid h
  have hc2 := h.cell.2.2.1
  have hc5 := h.cell.2.2.2.2.2.1
  have hmap := Lib.hid h.map
  have hkey := Lib.hid (keyInt (a := a) (by omega) (by omega))
  have he := Lib.hid (eqInt_any v sv t st w hv'.ints h.stack.ints)
  have HM := Lib.hid hm
  have Ht := Lib.hid ht
  clear h hm hv' ht
  go_enter Tryd.func66, Tryd.ntmps66
  go_wp2_with (first | (at_lookup; refine wpList_lookup_held _ rfl _ _ 63 rfl 3 31 lawInt Tryd.underlying63 (.slice none 0 0) (zeroInts _) m n D rfl hmap.out _ _ rfl hkey.out (some v) HM.out ?_) | (go_at_call 44; refine (he.out).mono ?_; rintro e w' ⟨rfl, q, rfl⟩; rw [decide_eq_false Ht.out]) | (at_mapUpdate; refine wpList_mapUpdate_own _ rfl _ _ _ 63 rfl 3 31 lawInt Tryd.underlying63 heldR m n D rfl (by exact hmap.out.alloc _) (ints_ne hn) _ _ _ rfl rfl hkey.out (.held (.slice (some ⟨w.heap.size, 0, none⟩) 1 1)) [] (by exact rfl) ?_; intro w1 hown1 hgrow1))
  go_ret
  refine ⟨rfl, ⟨_, _, _, H.out.store (fun k hk => heap_alloc_old (w.drewN q) _ hk) (Row.one (w.drewN q) 0 hbase) (fun x hx => ?_) hown1 hgrow1⟩, ?_⟩
  · have : w.heap.size = x := by simpa [Value.ownBlock] using hx
    omega
  · exact ((Fr.drewN base g m w q).trans (Fr.alloc base g m _ _)).trans (Fr.grownM hgrow1 H.out.hm)
theorem clone_store (h : CkInv w base g m kind tv cv stk sv hv n D st pend hs high) (a : Int) (h0 : 0 ≤ a) (h1 : a ≤ 9223372036854775807) (hn : n ≤ 1000000) (hst : st.length ≤ 1000000) (hbase : base ≤ w.heap.size) :
    Calls Tryd.prog 80 #[sv] w.drew fun e w1 => ∃ v' w2, e = .returned v' ∧ w1.cell? ⟨g, 5, none⟩ = some (.map (some m)) ∧ (Go.Instr.mapUpdate 63 (.map (some m)) (.int .i64 a) v').run Tryd.prog w1 = .ok () w2 ∧
      Hid (CkAt w2 base g m kind tv cv stk (n + 1) st (fun k => if k = a then some st else pend k) hs high ∧ Fr base g m w w2) := by
  have hd := h.drew
  refine (clone_any base sv st w.drew hd.stack hst base hbase).mono ?_
  rintro e w1 ⟨v', rfl, hr1, hf1, hb1⟩
  have hi1 := hd.move (fun k hk _ => hb1.block k hk)
  obtain ⟨w2, hrun, hown2, hgrow2⟩ := hi1.map.update lawInt Tryd.underlying63 (ints_ne hn) (keyInt h0 h1) (val := v') (d := .held v') (ps := []) rfl
  refine ⟨v', w2, rfl, cell_below hb1 hd.cell.2.2.2.2.2.1, hrun, Lib.hid ⟨⟨_, _, _, hd.store (fun k hk => hb1.block k hk) hr1 hf1 hown2 hgrow2⟩, ?_⟩⟩
  refine ((Fr.drewN base g m w 1).trans ⟨hb1.os, hb1.tape, hb1.output, hb1.size, fun k hk hl => hb1.block k hl, fun k c T q _ _ hc _ => hb1.block k (Array.getElem?_eq_some_iff.1 hc).1⟩).trans (Fr.grownM hgrow2 h.hm)
set_option maxHeartbeats 1000000 in
set_option maxRecDepth 100000 in
theorem forward_new (h : CkInv w base g m kind tv cv stk sv hv n D st pend hs high) (i a : Int) (A : Option Addr) (len cap : Nat) (hcv : cv = .slice A len cap) (hi : 0 ≤ i) (h1 : i < a) (h2 : a < (len : Int)) (hlen : len ≤ 1000000) (hn : n ≤ 1000000) (hst : st.length ≤ 1000000) (hbase : base ≤ w.heap.size)
    (hm : mget D (.int .i64 a) = none) :
    Calls Tryd.prog 66 #[.pointer (some ⟨g, 0, none⟩), .int .i64 i, .int .i64 a, sv] w fun e w' => e = .returned (.bool true) ∧ CkAt w' base g m kind tv cv stk (n + 1) st (fun k => if k = a then some st else pend k) hs high ∧ Fr base g m w w' := by
  subst hcv
  have H := Lib.hid h
  have hc2 := h.cell.2.2.1
  have hc5 := h.cell.2.2.2.2.2.1
  have hmap := Lib.hid h.map
  have hkey := Lib.hid (keyInt (a := a) (by omega) (by omega))
  have HC := Lib.hid (clone_store h a (by omega) (by omega) hn hst hbase)
  have HM := Lib.hid hm
  clear h hm
  go_enter Tryd.func66, Tryd.ntmps66
  go_wp2_with (at_lookup; refine wpList_lookup_held _ rfl _ _ 63 rfl 3 31 lawInt Tryd.underlying63 (.slice none 0 0) (zeroInts _) m n D rfl hmap.out _ _ rfl hkey.out none HM.out ?_)
  go_region_with (go_at_call 80; refine (HC.out).mono ?_; rintro e w1 ⟨v', w2, rfl, hc5', hrun, hF⟩)
  all_goals go_wp2
  all_goals go_ret
  all_goals (obtain ⟨f1, f2⟩ := hF.out; exact ⟨rfl, f1, f2⟩)
end
end Go.Proofs.YtkjhdgomkdemkaaDoor
