import Derived.Test.YtkjhdgomkdemkaaDoorB5
/-! An instruction of a program for conditions: those with a text, arithmetic, comparisons. -/
namespace Go.Proofs.YtkjhdgomkdemkaaDoor
open Go.RowKit
set_option linter.unusedVariables false
set_option maxRecDepth 100000
section
variable {w w' : World} {base g m : Nat} {kind : Int} {tv cv : Value} {stk : Int} {sv hv : Value} {n : Nat} {D : DataW Value} {st : List Int} {pend : Pend} {hs : List Int} {high : Int}
theorem Fr.belowT {W : World} (hf : Fr base g m w w') (h : Below w'.heap.size w' W) : Fr base g m w W := hf.trans (Fr.ofBelow h)
set_option maxHeartbeats 1000000 in
theorem conds_named (h : CkInv w base g m kind tv cv stk sv hv n D st pend hs high) (op i b y : Int) (j : Nat) (hbase : base ≤ w.heap.size) (hst : st.length ≤ 1000000) (texts : List ByteArray) (ht : StrsAt w tv texts)
    (hop : (op = 1 ∨ op = 4) ∧ y = 1 ∨ op = 2 ∧ y = 2 ∨ op = 3 ∧ y = 3) (r : Option (List Int × Pend)) (hr : r = if namedB texts op j = true then some (swapS st 0 [y], pend) else none) :
    Calls Tryd.prog 46 #[.pointer (some ⟨g, 0, none⟩), .int .i64 i, .agg #[.int .u8 op, .int .i64 j, .int .i64 b]] w (StepOut base g m kind tv cv stk n hs high r w) := by
  have HT0 := tops h (.cells #[.int .u8 op, .int .i64 j, .int .i64 b] 23)
  have hn := fun w' h1 h2 => named_any g op b j tv texts w' h1 h2
  cases hb : namedB texts op j
  all_goals
    rw [hb] at hr
    have Hr := Lib.hid hr
    rw [hb] at hn
    have HN := Lib.hid hn
    have HX := Lib.hid ht
    clear hr hn ht hb
    obtain ⟨t1, ht1⟩ : ∃ t1, t1 = topS st 1 := ⟨_, rfl⟩; obtain ⟨t2, ht2⟩ : ∃ t2, t2 = topS st 2 := ⟨_, rfl⟩; rw [← ht1, ← ht2] at HT0; have HT := Lib.hid HT0; have H := Lib.hid h; clear h HT0
    clear ht1 ht2
    rcases hop with ⟨rfl | rfl, rfl⟩ | ⟨rfl, rfl⟩ | ⟨rfl, rfl⟩
    all_goals
      (go_enter Tryd.func46, Tryd.ntmps46; go_wp2_with fail; refine (HT.out.1).mono ?_; rintro e w' ⟨rfl, q, rfl⟩; go_wp2_with fail; refine (HT.out.2 _).mono ?_; rintro e w' ⟨rfl, q', rfl⟩)
      go_wp2_with (first | (go_at_call 62; refine (HN.out _ (((H.out.alloc _).drewN _).cell.2.1) (HX.out.below (below_drewN (below_al (Below.refl _ _) _) _))).mono ?_; rintro e w' ⟨rfl, hB⟩) | (go_at_call 63; refine (swap1_any (((((H.out.alloc _).drewN _).below hB).alloc _)) _ (by omega) (by omega) _ _ (by simp; rfl) hst (by have := hB.size; simp at this ⊢; omega)).mono ?_; rintro e w'' ⟨rfl, hck, hfr⟩))
      go_ret
  all_goals first
    | exact out_none Hr.out (by simp) ((Fr.box base g m w _ _).belowT hB) ⟨_, _, _, _, _, (((H.out.alloc _).drewN _).below hB).mono⟩
    | exact out_some Hr.out (by simp) hck.mono ((((Fr.box base g m w _ _).belowT hB).trans (Fr.alloc base g m _ _)).trans hfr)
theorem cell_new0 (w : World) (x : Value) (T : TypeId) : (w.alloc (.cells #[x] T)).cell? ⟨w.heap.size, 0, none⟩ = some x := by simp
theorem cell_new (w : World) (q : Nat) (x : Value) (T : TypeId) : ((w.drewN q).alloc (.cells #[x] T)).cell? ⟨w.heap.size, 0, none⟩ = some x := cell_new0 (w.drewN q) x T
theorem tops0 (h : CkInv w base g m kind tv cv stk sv hv n D st pend hs high) :
    (Calls Tryd.prog 61 #[.pointer (some ⟨g, 0, none⟩), .int .i64 2] w fun e w' => e = .returned (.int .i64 (topS st 2)) ∧ ∃ q', w' = w.drewN q') ∧
    ∀ q, Calls Tryd.prog 61 #[.pointer (some ⟨g, 0, none⟩), .int .i64 1] (w.drewN q) fun e w' => e = .returned (.int .i64 (topS st 1)) ∧ ∃ q', w' = w.drewN q' := by
  refine ⟨top_any h 2 (by decide), fun q => ?_⟩
  refine (top_any (h.drewN q) 1 (by decide)).mono ?_
  rintro e w' ⟨rfl, q', rfl⟩
  exact ⟨rfl, q + q', World.drewN_drewN ..⟩
def ArOut (base g m : Nat) (kind : Int) (tv cv : Value) (stk : Int) (n : Nat) (st : List Int) (pend : Pend) (hs : List Int) (high : Int) (r : Option Int) (w : World) (e : Ending) (w' : World) : Prop :=
  match r with
  | none => e = .returned (.bool false) ∧ ∃ q, w' = w.drewN q
  | some y => e = .returned (.bool true) ∧ CkAt w' base g m kind tv cv stk n (swapS st 2 [y]) pend hs high ∧ Fr base g m w w'
theorem ar_none {r : Option Int} {e : Ending} (hr : r = none) (he : e = .returned (.bool false)) (hf : ∃ q, w' = w.drewN q) : ArOut base g m kind tv cv stk n st pend hs high r w e w' := by
  subst hr; exact ⟨he, hf⟩
theorem ar_some {r : Option Int} {y : Int} {e : Ending} (hr : r = some y) (he : e = .returned (.bool true)) (hc : CkAt w' base g m kind tv cv stk n (swapS st 2 [y]) pend hs high) (hf : Fr base g m w w') : ArOut base g m kind tv cv stk n st pend hs high r w e w' := by
  subst hr; exact ⟨he, hc, hf⟩
set_option maxHeartbeats 2000000 in
theorem arith_any (h : CkInv w base g m kind tv cv stk sv hv n D st pend hs high) (op : Int) (hbase : base ≤ w.heap.size) (hst : st.length ≤ 1000000) (hop : op = 10 ∨ op = 11 ∨ op = 12 ∨ op = 13 ∨ op = 14 ∨ op = 15) (r : Option Int) (hr : r = arithS op (topS st 2) (topS st 1)) :
    Calls Tryd.prog 65 #[.pointer (some ⟨g, 0, none⟩), .int .u8 op] w (ArOut base g m kind tv cv stk n st pend hs high r w) := by
  have HT0 := tops0 h
  have hl := fun (hx : topS st 2 ≠ 0) => top_len hx
  obtain ⟨t1, ht1⟩ : ∃ t1, t1 = topS st 1 := ⟨_, rfl⟩; obtain ⟨t2, ht2⟩ : ∃ t2, t2 = topS st 2 := ⟨_, rfl⟩; rw [← ht1, ← ht2] at HT0; have HT := Lib.hid HT0; have H := Lib.hid h; clear h HT0
  rw [← ht1, ← ht2] at hr
  rw [← ht2] at hl
  clear ht1 ht2
  have hp1 : (t1 = 2 ∨ t1 = 3 ∨ (t1 ≠ 2 ∧ t1 ≠ 3)) := by omega
  have hp2 : (t2 = 2 ∨ t2 = 3 ∨ (t2 ≠ 2 ∧ t2 ≠ 3)) := by omega
  have hr' := hr
  rcases hp2 with rfl | rfl | ⟨ha, hb⟩
  all_goals rcases hp1 with rfl | rfl | ⟨hc, hd⟩
  all_goals try have hb' := beq_false_of_ne ha
  all_goals try have hb'' := beq_false_of_ne hb
  all_goals try have hc' := beq_false_of_ne hc
  all_goals try have hc'' := beq_false_of_ne hd
  all_goals
    first
      | (have hl' := hl (by decide); clear hl)
      | clear hl
    have Hr := Lib.hid hr
    clear hr hr'
    rcases hop with rfl | rfl | rfl | rfl | rfl | rfl
    all_goals
      go_enter Tryd.func65, Tryd.ntmps65
      go_wp2_with fail
      refine (HT.out.1).mono ?_
      rintro e w' ⟨rfl, q, rfl⟩
      go_wp2_with fail
      refine (HT.out.2 _).mono ?_
      rintro e w' ⟨rfl, q', rfl⟩
      go_wp2_with (first | (go_at_call 64; refine (number_any _ _).mono ?_; rintro e w' ⟨rfl, rfl⟩) | (go_at_call 63; refine (swap1_any ((H.out.drewN _).alloc _) _ (by omega) (by omega) _ _ (cell_new ..) hst (by simp; omega)).mono ?_; rintro e w' ⟨rfl, hck, hfr⟩))
      go_ret
  all_goals first
    | exact ar_some Hr.out (by simp) hck (((Fr.drewN base g m w _).trans (Fr.alloc base g m _ _)).trans hfr)
    | exact ar_none (by rw [Hr.out]; simp [arithS, *]) (by simp) ⟨_, rfl⟩
set_option maxHeartbeats 1000000 in
theorem conds_arith (h : CkInv w base g m kind tv cv stk sv hv n D st pend hs high) (op i a b : Int) (hbase : base ≤ w.heap.size) (hst : st.length ≤ 1000000) (hop : op = 10 ∨ op = 11 ∨ op = 12 ∨ op = 13 ∨ op = 14 ∨ op = 15) (r : Option (List Int × Pend)) (hr : r = (arithS op (topS st 2) (topS st 1)).map (fun y => (swapS st 2 [y], pend))) :
    Calls Tryd.prog 46 #[.pointer (some ⟨g, 0, none⟩), .int .i64 i, .agg #[.int .u8 op, .int .i64 a, .int .i64 b]] w (StepOut base g m kind tv cv stk n hs high r w) := by
  have HT0 := tops h (.cells #[.int .u8 op, .int .i64 a, .int .i64 b] 23)
  obtain ⟨r0, hr0⟩ : ∃ r0, r0 = arithS op (topS st 2) (topS st 1) := ⟨_, rfl⟩
  have HA := Lib.hid (fun w' h' hb' => arith_any (w := w') (sv := sv) (hv := hv) (n := n) (D := D) (pend := pend) (hs := hs) (high := high) (base := base) (g := g) (m := m) (kind := kind) (tv := tv) (cv := cv) (stk := stk) h' op hb' hst hop r0 hr0)
  rw [← hr0] at hr
  clear hr0
  obtain ⟨t1, ht1⟩ : ∃ t1, t1 = topS st 1 := ⟨_, rfl⟩; obtain ⟨t2, ht2⟩ : ∃ t2, t2 = topS st 2 := ⟨_, rfl⟩; rw [← ht1, ← ht2] at HT0; have HT := Lib.hid HT0; have H := Lib.hid h; clear h HT0
  clear ht1 ht2
  cases r0 with
  | none =>
    have Hr := Lib.hid hr
    clear hr
    rcases hop with rfl | rfl | rfl | rfl | rfl | rfl
    all_goals
      (go_enter Tryd.func46, Tryd.ntmps46; go_wp2_with fail; refine (HT.out.1).mono ?_; rintro e w' ⟨rfl, q, rfl⟩; go_wp2_with fail; refine (HT.out.2 _).mono ?_; rintro e w' ⟨rfl, q', rfl⟩)
      go_wp2_with (go_at_call 65; refine (HA.out _ ((H.out.alloc _).drewN _) (by simp; omega)).mono ?_; rintro e w' ⟨rfl, q2, rfl⟩)
      go_ret
      exact out_box H.out Hr.out (by simp)
  | some y =>
    have Hr := Lib.hid hr
    clear hr
    rcases hop with rfl | rfl | rfl | rfl | rfl | rfl
    all_goals
      (go_enter Tryd.func46, Tryd.ntmps46; go_wp2_with fail; refine (HT.out.1).mono ?_; rintro e w' ⟨rfl, q, rfl⟩; go_wp2_with fail; refine (HT.out.2 _).mono ?_; rintro e w' ⟨rfl, q', rfl⟩)
      go_wp2_with (go_at_call 65; refine (HA.out _ ((H.out.alloc _).drewN _) (by simp; omega)).mono ?_; rintro e w' ⟨rfl, hck, hfr⟩)
      go_ret
      exact out_some Hr.out (by simp) hck.mono ((Fr.box base g m w _ _).trans hfr)
set_option maxHeartbeats 1000000 in
theorem conds_compare (h : CkInv w base g m kind tv cv stk sv hv n D st pend hs high) (op i a b : Int) (hbase : base ≤ w.heap.size) (hst : st.length ≤ 1000000) (hop : op = 16 ∨ op = 17 ∨ op = 18 ∨ op = 19 ∨ op = 20 ∨ op = 21) (c : Bool) (hc : c = (topS st 2 == 1 && topS st 1 == 1 || (topS st 2 == 2 || topS st 2 == 3) && (topS st 1 == 2 || topS st 1 == 3))) (r : Option (List Int × Pend)) (hr : r = if c = true then some (swapS st 2 [4], pend) else none) :
    Calls Tryd.prog 46 #[.pointer (some ⟨g, 0, none⟩), .int .i64 i, .agg #[.int .u8 op, .int .i64 a, .int .i64 b]] w (StepOut base g m kind tv cv stk n hs high r w) := by
  have HT0 := tops h (.cells #[.int .u8 op, .int .i64 a, .int .i64 b] 23)
  have hl := fun (hx : topS st 2 ≠ 0) => top_len hx
  obtain ⟨t1, ht1⟩ : ∃ t1, t1 = topS st 1 := ⟨_, rfl⟩; obtain ⟨t2, ht2⟩ : ∃ t2, t2 = topS st 2 := ⟨_, rfl⟩; rw [← ht1, ← ht2] at HT0; have HT := Lib.hid HT0; have H := Lib.hid h; clear h HT0
  rw [← ht1, ← ht2] at hc
  rw [← ht2] at hl
  clear ht1 ht2
  obtain ⟨n2, hn2⟩ : ∃ n2, n2 = (t2 == 2 || t2 == 3) := ⟨_, rfl⟩
  obtain ⟨n1, hn1⟩ : ∃ n1, n1 = (t1 == 2 || t1 == 3) := ⟨_, rfl⟩
  have hl2 : n2 = true → 2 ≤ st.length := fun h => hl (fun e => by rw [hn2, e] at h; cases h)
  have hl3 : (t2 == 1) = true → 2 ≤ st.length := fun h => hl (fun e => by rw [e] at h; cases h)
  rw [← hn2, ← hn1] at hc
  have h12 : (t2 == 1) = true → n2 = false := fun h => by rw [hn2, beq_iff_eq.1 h]; rfl
  have HN1 := Lib.hid hn1.symm
  have HN2 := Lib.hid hn2.symm
  clear hn1 hn2 hl
  cases hb2 : (t2 == 1)
  · clear hl3 h12
    cases n2
    · clear hl2
      have hc' : c = false := by rw [hc, hb2]; rfl
      subst hc'
      clear hc
      have Hr := Lib.hid hr
      clear hr
      rcases hop with rfl | rfl | rfl | rfl | rfl | rfl
      all_goals
        (go_enter Tryd.func46, Tryd.ntmps46; go_wp2_with fail; refine (HT.out.1).mono ?_; rintro e w' ⟨rfl, q, rfl⟩; go_wp2_with fail; refine (HT.out.2 _).mono ?_; rintro e w' ⟨rfl, q', rfl⟩)
        go_wp2_with (go_at_call 64; refine (number_any _ _).mono ?_; rintro e w' ⟨rfl, rfl⟩; rw [HN2.out])
        go_ret
        exact out_box H.out Hr.out (by simp)
    · have hl' := hl2 rfl
      have hc' : c = n1 := by rw [hc, hb2]; rfl
      subst hc'
      clear hc hl2
      cases c
      all_goals
        have Hr := Lib.hid hr
        clear hr
        rcases hop with rfl | rfl | rfl | rfl | rfl | rfl
        all_goals
          (go_enter Tryd.func46, Tryd.ntmps46; go_wp2_with fail; refine (HT.out.1).mono ?_; rintro e w' ⟨rfl, q, rfl⟩; go_wp2_with fail; refine (HT.out.2 _).mono ?_; rintro e w' ⟨rfl, q', rfl⟩)
          go_wp2_with (first | (go_at_call 64; refine (number_any _ _).mono ?_; rintro e w' ⟨rfl, rfl⟩; first | rw [HN2.out] | rw [HN1.out]) | (go_at_call 63; refine (swap1_any (((H.out.alloc _).alloc _).drewN _) _ (by omega) (by omega) _ _ (by simp; rfl) hst (by simp; omega)).mono ?_; rintro e w' ⟨rfl, hck, hfr⟩))
          go_ret
      all_goals first
        | exact out_box H.out Hr.out (by simp)
        | exact out_some Hr.out (by simp) hck.mono (((Fr.alloc base g m w _).trans (Fr.box base g m _ _ _)).trans hfr)
  · have hl' := hl3 hb2
    have hn := h12 hb2
    subst hn
    cases hb1 : (t1 == 1)
    · have hc' : c = false := by rw [hc, hb2, hb1]; rfl
      subst hc'
      clear hc hl2 hl3 h12
      have Hr := Lib.hid hr
      clear hr
      rcases hop with rfl | rfl | rfl | rfl | rfl | rfl
      all_goals
        (go_enter Tryd.func46, Tryd.ntmps46; go_wp2_with fail; refine (HT.out.1).mono ?_; rintro e w' ⟨rfl, q, rfl⟩; go_wp2_with fail; refine (HT.out.2 _).mono ?_; rintro e w' ⟨rfl, q', rfl⟩)
        go_wp2_with (go_at_call 64; refine (number_any _ _).mono ?_; rintro e w' ⟨rfl, rfl⟩; rw [HN2.out])
        go_ret
        exact out_box H.out Hr.out (by simp)
    · have hc' : c = true := by rw [hc, hb2, hb1]; rfl
      subst hc'
      clear hc hl2 hl3 h12
      have Hr := Lib.hid hr
      clear hr
      rcases hop with rfl | rfl | rfl | rfl | rfl | rfl
      all_goals
        (go_enter Tryd.func46, Tryd.ntmps46; go_wp2_with fail; refine (HT.out.1).mono ?_; rintro e w' ⟨rfl, q, rfl⟩; go_wp2_with fail; refine (HT.out.2 _).mono ?_; rintro e w' ⟨rfl, q', rfl⟩)
        go_wp2_with (go_at_call 63; refine (swap1_any (((H.out.alloc _).alloc _).drewN _) _ (by omega) (by omega) _ _ (by simp; rfl) hst (by simp; omega)).mono ?_; rintro e w' ⟨rfl, hck, hfr⟩)
        go_ret
        exact out_some Hr.out (by simp) hck.mono (((Fr.alloc base g m w _).trans (Fr.box base g m _ _ _)).trans hfr)
end
end Go.Proofs.YtkjhdgomkdemkaaDoor
