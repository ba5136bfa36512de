import Derived.Test.YtkjhdgomkdemkaaDoorB7
/-! An instruction of a program for conditions, whole; one of a program for licensees; is a failing one guarded? -/
namespace Go.Proofs.YtkjhdgomkdemkaaDoor
open Go.RowKit
set_option linter.unusedVariables false
set_option maxRecDepth 100000
section
variable {w w' : World} {base g m : Nat} {kind : Int} {tv cv : Value} {stk : Int} {sv hv : Value} {n : Nat} {D : DataW Value} {st : List Int} {pend : Pend} {hs : List Int} {high : Int}
theorem conds_any (h : CkInv w base g m kind tv cv stk sv hv n D st pend hs high) (x : Instr) (i : Int) (hbase : base ≤ w.heap.size) (hst : st.length ≤ 1000000) (texts : List ByteArray) (ht : StrsAt w tv texts)
    (A : Option Addr) (len cap : Nat) (hcv : cv = .slice A len cap) (hi : 0 ≤ i) (hlen : len ≤ 1000000) (hn : n ≤ 1000000) (h1 : 1 ≤ x.op) (ha : 0 ≤ x.a)
    (r : Option (List Int × Pend)) (hr : r = condsS len texts i x st pend) :
    Calls Tryd.prog 46 #[.pointer (some ⟨g, 0, none⟩), .int .i64 i, .agg #[.int .u8 x.op, .int .i64 x.a, .int .i64 x.b]] w (StepOut base g m kind tv cv stk n hs high r w) := by
  obtain ⟨op, a, b⟩ := x
  obtain ⟨j, hj⟩ := Int.eq_ofNat_of_zero_le ha
  simp only at *
  subst hj
  have hop : op = 1 ∨ op = 2 ∨ op = 3 ∨ op = 4 ∨ op = 5 ∨ op = 6 ∨ op = 7 ∨ op = 8 ∨ op = 9 ∨ op = 10 ∨ op = 11 ∨ op = 12 ∨ op = 13 ∨ op = 14 ∨ op = 15 ∨ op = 16 ∨ op = 17 ∨ op = 18 ∨ op = 19 ∨ op = 20 ∨ op = 21 ∨ op = 22 ∨ op = 23 ∨ op = 24 ∨ op = 25 ∨ op = 26 ∨ op = 27 ∨ op = 28 ∨ op = 29 ∨ op = 30 ∨ op = 31 ∨ op = 32 ∨ op = 33 ∨ 34 ≤ op := by omega
  rcases hop with rfl | rfl | rfl | rfl | rfl | rfl | rfl | rfl | rfl | rfl | rfl | rfl | rfl | rfl | rfl | rfl | rfl | rfl | rfl | rfl | rfl | rfl | rfl | rfl | rfl | rfl | rfl | rfl | rfl | rfl | rfl | rfl | rfl | hop
  · exact conds_named h 1 i b 1 j hbase hst texts ht (by decide) r (hr.trans (by simp [condsS]))
  · exact conds_named h 2 i b 2 j hbase hst texts ht (by decide) r (hr.trans (by simp [condsS]))
  · exact conds_named h 3 i b 3 j hbase hst texts ht (by decide) r (hr.trans (by simp [condsS]))
  · exact conds_named h 4 i b 1 j hbase hst texts ht (by decide) r (hr.trans (by simp [condsS]))
  · exact conds_still h 5 i _ b hbase _ (.inl ⟨rfl, rfl⟩) r (hr.trans (by simp [condsS]))
  · exact conds_to h 6 i _ b 2 hbase hst (by decide) r (hr.trans (by simp [condsS]))
  · exact conds_to h 7 i _ b 3 hbase hst (by decide) r (hr.trans (by simp [condsS]))
  · exact conds_texts h 8 i _ b 1 hbase hst (by decide) r (hr.trans (by simp [condsS]))
  · exact conds_neg h i _ b hbase _ rfl r (hr.trans (by simp [condsS]))
  · exact conds_arith h 10 i _ b hbase hst (by decide) r (hr.trans (by simp [condsS]))
  · exact conds_arith h 11 i _ b hbase hst (by decide) r (hr.trans (by simp [condsS]))
  · exact conds_arith h 12 i _ b hbase hst (by decide) r (hr.trans (by simp [condsS]))
  · exact conds_arith h 13 i _ b hbase hst (by decide) r (hr.trans (by simp [condsS]))
  · exact conds_arith h 14 i _ b hbase hst (by decide) r (hr.trans (by simp [condsS]))
  · exact conds_arith h 15 i _ b hbase hst (by decide) r (hr.trans (by simp [condsS]))
  · exact conds_compare h 16 i _ b hbase hst (by decide) _ rfl r (hr.trans (by simp [condsS]))
  · exact conds_compare h 17 i _ b hbase hst (by decide) _ rfl r (hr.trans (by simp [condsS]))
  · exact conds_compare h 18 i _ b hbase hst (by decide) _ rfl r (hr.trans (by simp [condsS]))
  · exact conds_compare h 19 i _ b hbase hst (by decide) _ rfl r (hr.trans (by simp [condsS]))
  · exact conds_compare h 20 i _ b hbase hst (by decide) _ rfl r (hr.trans (by simp [condsS]))
  · exact conds_compare h 21 i _ b hbase hst (by decide) _ rfl r (hr.trans (by simp [condsS]))
  · exact conds_texts h 22 i _ b 4 hbase hst (by decide) r (hr.trans (by simp [condsS]))
  · exact conds_still h 23 i _ b hbase _ (.inr ⟨rfl, rfl⟩) r (hr.trans (by simp [condsS]))
  · exact conds_push h 24 i _ b hbase hst (by decide) r (hr.trans (by simp [condsS]))
  · exact conds_push h 25 i _ b hbase hst (by decide) r (hr.trans (by simp [condsS]))
  · exact conds_andor h 26 i _ b hbase hst (by decide) A len cap hcv hi hlen hn _ rfl r (hr.trans (by simp [condsS]))
  · exact conds_andor h 27 i _ b hbase hst (by decide) A len cap hcv hi hlen hn _ rfl r (hr.trans (by simp [condsS]))
  · exact conds_if h i _ b hbase hst A len cap hcv hi hlen hn _ rfl r (hr.trans (by simp [condsS]))
  · exact conds_guard h i _ b hbase hst A len cap hcv hi hlen hn _ rfl r (hr.trans (by simp [condsS]))
  · exact conds_unguard h i _ b hbase hst r (hr.trans (by simp [condsS]))
  · exact conds_note h i _ b hbase hst r (hr.trans (by simp [condsS]))
  · exact conds_top h i _ b hbase r (hr.trans (by simp [condsS]))
  · exact conds_end h i _ b hbase r (hr.trans (by simp [condsS]))
  · refine conds_other h op i _ b hbase hop r (hr.trans ?_)
    unfold condsS
    simp only
    repeat rw [if_neg (by omega)]
/-! ### licensees -/
set_option maxHeartbeats 1000000 in
theorem lics_named (h : CkInv w base g m kind tv cv stk sv hv n D st pend hs high) (b : Int) (j : Nat) (hbase : base ≤ w.heap.size) (hst : st.length ≤ 1000000) (texts : List ByteArray) (ht : StrsAt w tv texts)
    (r : Option (List Int × Pend)) (hr : r = if namedB texts 34 j = true then some (swapS st 0 [6], pend) else none) :
    Calls Tryd.prog 47 #[.pointer (some ⟨g, 0, none⟩), .agg #[.int .u8 34, .int .i64 j, .int .i64 b]] w (StepOut base g m kind tv cv stk n hs high r w) := by
  have hn := fun w' h1 h2 => named_any g 34 b j tv texts w' h1 h2
  obtain ⟨A, cap, rfl, hc1, hc2⟩ := h.stack.slice
  have hc4 := h.cell.2.2.2.2.1
  have hg4 : g < w.heap.size := cell_lt hc4
  cases hb : namedB texts 34 j
  all_goals
    rw [hb] at hr
    have Hr := Lib.hid hr
    rw [hb] at hn
    have HN := Lib.hid hn
    have HX := Lib.hid ht
    have H := Lib.hid h
    clear hr hn ht hb h
    go_enter Tryd.func47, Tryd.ntmps47
    go_wp2_with (first | (go_at_call 62; refine (HN.out _ (H.out.alloc _).cell.2.1 (HX.out.below (below_al (Below.refl _ _) _))).mono ?_; rintro e w' ⟨rfl, hB⟩) | (go_at_call 63; refine (swap1_any (((H.out.alloc _).below hB).alloc _) _ (by omega) (by omega) _ _ (by simp; rfl) hst (by have := hB.size; simp at this ⊢; omega)).mono ?_; rintro e w'' ⟨rfl, hck, hfr⟩))
    go_ret
  all_goals first
    | exact out_none Hr.out (by simp) ((Fr.alloc base g m w _).belowT hB) ⟨_, _, _, _, _, ((H.out.alloc _).below hB).mono⟩
    | exact out_some Hr.out (by simp) hck.mono ((((Fr.alloc base g m w _).belowT hB).trans (Fr.alloc base g m _ _)).trans hfr)
set_option maxHeartbeats 1000000 in
theorem lics_minmax (h : CkInv w base g m kind tv cv stk sv hv n D st pend hs high) (op a b : Int) (hop : op = 35 ∨ op = 36) (hbase : base ≤ w.heap.size) (hst : st.length ≤ 1000000)
    (r : Option (List Int × Pend)) (hr : r = if 1 < st.length then some (swapS st 1 [], pend) else none) :
    Calls Tryd.prog 47 #[.pointer (some ⟨g, 0, none⟩), .agg #[.int .u8 op, .int .i64 a, .int .i64 b]] w (StepOut base g m kind tv cv stk n hs high r w) := by
  obtain ⟨A, cap, rfl, hc1, hc2⟩ := h.stack.slice
  have hc4 := h.cell.2.2.2.2.1
  have hg4 : g < w.heap.size := cell_lt hc4
  have HL := Lib.hid hst
  by_cases h0 : 1 < st.length
  · rw [if_pos h0] at hr
    have Hr := Lib.hid hr
    have H := Lib.hid h
    have h1 : (1 : Int) < (st.length : Int) := by omega
    clear hr h
    rcases hop with rfl | rfl
    all_goals
      go_enter Tryd.func47, Tryd.ntmps47
      go_wp2_with (go_at_call 63; refine (swap0_any (H.out.alloc _) _ (by omega) (by omega) HL.out (by simp; omega)).mono ?_; rintro e w' ⟨rfl, hck, hfr⟩)
      go_ret
      exact out_some Hr.out (by simp) hck.mono ((Fr.alloc base g m w _).trans hfr)
  · rw [if_neg h0] at hr
    have Hr := Lib.hid hr
    have h1 : (st.length : Int) ≤ 1 := by omega
    have H := Lib.hid h
    clear hr h
    rcases hop with rfl | rfl
    all_goals
      go_enter Tryd.func47, Tryd.ntmps47
      go_wp2
      go_ret
      exact out_box1 H.out Hr.out (by simp)
set_option maxHeartbeats 1000000 in
theorem lics_give (h : CkInv w base g m kind tv cv stk sv hv n D st pend hs high) (a b : Int) (hbase : base ≤ w.heap.size) (hst : st.length ≤ 1000000)
    (r : Option (List Int × Pend)) (hr : r = if st.length = 1 then some (swapS st 1 [], pend) else none) :
    Calls Tryd.prog 47 #[.pointer (some ⟨g, 0, none⟩), .agg #[.int .u8 38, .int .i64 a, .int .i64 b]] w (StepOut base g m kind tv cv stk n hs high r w) := by
  obtain ⟨A, cap, rfl, hc1, hc2⟩ := h.stack.slice
  have hc4 := h.cell.2.2.2.2.1
  have hg4 : g < w.heap.size := cell_lt hc4
  have HL := Lib.hid hst
  by_cases h0 : st.length = 1
  · rw [if_pos h0] at hr
    have Hr := Lib.hid hr
    have H := Lib.hid h
    have h1 : ((st.length : Int) == 1) = true := by rw [beq_iff_eq]; omega
    have H0 := Lib.hid h0
    clear hr h h0
    go_enter Tryd.func47, Tryd.ntmps47
    go_wp2_with (go_at_call 63; refine (swap0_any (H.out.alloc _) _ (by omega) (by have := H0.out; omega) HL.out (by simp; omega)).mono ?_; rintro e w' ⟨rfl, hck, hfr⟩)
    go_ret
    exact out_some Hr.out (by simp) hck.mono ((Fr.alloc base g m w _).trans hfr)
  · rw [if_neg h0] at hr
    have Hr := Lib.hid hr
    have h1 : ((st.length : Int) == 1) = false := by rw [beq_eq_false_iff_ne]; omega
    have H := Lib.hid h
    clear hr h h0
    go_enter Tryd.func47, Tryd.ntmps47
    go_wp2
    go_ret
    exact out_box1 H.out Hr.out (by simp)
set_option maxHeartbeats 1000000 in
theorem lics_kth (h : CkInv w base g m kind tv cv stk sv hv n D st pend hs high) (a b : Int) (hbase : base ≤ w.heap.size) (hst : st.length ≤ 1000000)
    (r : Option (List Int × Pend)) (hr : r = if 1 ≤ a ∧ a ≤ b ∧ b ≤ st.length then some (swapS st (b - 1).toNat [], pend) else none) :
    Calls Tryd.prog 47 #[.pointer (some ⟨g, 0, none⟩), .agg #[.int .u8 37, .int .i64 a, .int .i64 b]] w (StepOut base g m kind tv cv stk n hs high r w) := by
  obtain ⟨A, cap, rfl, hc1, hc2⟩ := h.stack.slice
  have hc4 := h.cell.2.2.2.2.1
  have hg4 : g < w.heap.size := cell_lt hc4
  have HL := Lib.hid hst
  by_cases h1 : 1 ≤ a
  · by_cases h2 : a ≤ b
    · by_cases h3 : b ≤ (st.length : Int)
      · rw [if_pos ⟨h1, h2, h3⟩] at hr
        obtain ⟨k, hk⟩ := Int.eq_ofNat_of_zero_le (show 0 ≤ b - 1 by omega)
        have hs0 := swap0_any (h.alloc (.cells #[.int .u8 37, .int .i64 a, .int .i64 b] 23)) (b - 1) (by omega) (by omega) hst (by simp; omega)
        have HS := Lib.hid hs0
        have Hr := Lib.hid hr
        have hw : IntKind.i64.wrap (b - 1) = b - 1 := IntWalk.i64_in _ (by omega)
        clear hr h hs0 hk k
        go_enter Tryd.func47, Tryd.ntmps47
        go_wp2_with (go_at_call 63; refine (HS.out).mono ?_; rintro e w' ⟨rfl, hck, hfr⟩)
        go_ret
        exact out_some Hr.out (by simp) hck.mono ((Fr.alloc base g m w _).trans hfr)
      · rw [if_neg (by omega)] at hr
        have Hr := Lib.hid hr
        have h4 : (st.length : Int) < b := by omega
        have H := Lib.hid h
        clear hr h
        go_enter Tryd.func47, Tryd.ntmps47
        go_wp2
        go_ret
        exact out_box1 H.out Hr.out (by simp)
    · rw [if_neg (by omega)] at hr
      have Hr := Lib.hid hr
      have h4 : b < a := by omega
      have H := Lib.hid h
      clear hr h
      go_enter Tryd.func47, Tryd.ntmps47
      go_wp2
      go_ret
      exact out_box1 H.out Hr.out (by simp)
  · rw [if_neg (by omega)] at hr
    have Hr := Lib.hid hr
    have h4 : a < 1 := by omega
    have H := Lib.hid h
    clear hr h
    go_enter Tryd.func47, Tryd.ntmps47
    go_wp2
    go_ret
    exact out_box1 H.out Hr.out (by simp)
set_option maxHeartbeats 1000000 in
theorem lics_other (h : CkInv w base g m kind tv cv stk sv hv n D st pend hs high) (op a b : Int) (hop : op < 34 ∨ 38 < op)
    (r : Option (List Int × Pend)) (hr : r = none) :
    Calls Tryd.prog 47 #[.pointer (some ⟨g, 0, none⟩), .agg #[.int .u8 op, .int .i64 a, .int .i64 b]] w (StepOut base g m kind tv cv stk n hs high r w) := by
  obtain ⟨A, cap, rfl, hc1, hc2⟩ := h.stack.slice
  have hc4 := h.cell.2.2.2.2.1
  have hg4 : g < w.heap.size := cell_lt hc4
  have Hr := Lib.hid hr
  have h34 : (op == 34) = false := by rw [beq_eq_false_iff_ne]; omega
  have h35 : (op == 35) = false := by rw [beq_eq_false_iff_ne]; omega
  have h36 : (op == 36) = false := by rw [beq_eq_false_iff_ne]; omega
  have h37 : (op == 37) = false := by rw [beq_eq_false_iff_ne]; omega
  have h38 : (op == 38) = false := by rw [beq_eq_false_iff_ne]; omega
  have H := Lib.hid h
  clear hr h hop
  go_enter Tryd.func47, Tryd.ntmps47
  go_wp2
  go_ret
  exact out_box1 H.out Hr.out (by simp)
theorem lics_any (h : CkInv w base g m kind tv cv stk sv hv n D st pend hs high) (x : Instr) (hbase : base ≤ w.heap.size) (hst : st.length ≤ 1000000) (texts : List ByteArray) (ht : StrsAt w tv texts) (ha : 0 ≤ x.a)
    (r : Option (List Int × Pend)) (hr : r = licsS texts x st pend) :
    Calls Tryd.prog 47 #[.pointer (some ⟨g, 0, none⟩), .agg #[.int .u8 x.op, .int .i64 x.a, .int .i64 x.b]] w (StepOut base g m kind tv cv stk n hs high r w) := by
  obtain ⟨op, a, b⟩ := x
  obtain ⟨j, hj⟩ := Int.eq_ofNat_of_zero_le ha
  simp only at *
  subst hj
  have hop : op = 34 ∨ (op = 35 ∨ op = 36) ∨ op = 37 ∨ op = 38 ∨ (op < 34 ∨ 38 < op) := by omega
  rcases hop with rfl | hop | rfl | rfl | hop
  · exact lics_named h b j hbase hst texts ht r (hr.trans (by simp [licsS]))
  · exact lics_minmax h op _ b hop hbase hst r (hr.trans (by rcases hop with rfl | rfl <;> simp [licsS]))
  · exact lics_kth h _ b hbase hst r (hr.trans (by simp [licsS]))
  · exact lics_give h _ b hbase hst r (hr.trans (by simp [licsS]))
  · refine lics_other h op _ b hop r (hr.trans ?_)
    unfold licsS
    simp only
    repeat rw [if_neg (by omega)]
/-! ### is a failing one guarded? -/
set_option maxHeartbeats 1000000 in
theorem risky_any (h : CkInv w base g m kind tv cv stk sv hv n D st pend hs high) (op : Int) :
    Calls Tryd.prog 45 #[.pointer (some ⟨g, 0, none⟩), .int .u8 op] w fun e w' => e = .returned (.bool (riskyB op st)) ∧ w = w' := by
  have hc4 := h.cell.2.2.2.2.1
  have HI := Lib.hid (hasInt_any sv st w h.stack.ints)
  obtain ⟨q, hq⟩ : ∃ q, q = riskyB op st := ⟨_, rfl⟩
  rw [← hq]
  obtain ⟨q2, hq2⟩ : ∃ q2, q2 = st.any (fun t => decide (8 ≤ t)) := ⟨_, rfl⟩
  rw [← hq2] at HI
  unfold riskyB at hq
  rw [← hq2] at hq
  have HQ := Lib.hid hq
  clear h hq hq2
  have hop : op = 22 ∨ op = 13 ∨ op = 14 ∨ op = 15 ∨ (op ≠ 22 ∧ op ≠ 13 ∧ op ≠ 14 ∧ op ≠ 15) := by omega
  rcases hop with rfl | rfl | rfl | rfl | ⟨h1, h2, h3, h4⟩
  all_goals
    go_enter Tryd.func45, Tryd.ntmps45
    go_wp2_with (go_at_call 59; refine (HI.out).mono ?_; rintro e w' ⟨rfl, rfl⟩)
    go_ret
    exact ⟨ret_bool (by rw [HQ.out]; simp [*]), rfl⟩
end
end Go.Proofs.YtkjhdgomkdemkaaDoor
