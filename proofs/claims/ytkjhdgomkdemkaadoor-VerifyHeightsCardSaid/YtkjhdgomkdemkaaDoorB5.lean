import Derived.Test.YtkjhdgomkdemkaaDoorB2
import Derived.Test.YtkjhdgomkdemkaaDoorB4
/-! An instruction of a program for conditions. -/
namespace Go.Proofs.YtkjhdgomkdemkaaDoor
open Go.RowKit
set_option linter.unusedVariables false
set_option maxRecDepth 100000

section
variable {w w' : World} {base g m : Nat} {kind : Int} {tv cv : Value} {stk : Int} {sv hv : Value} {n : Nat} {D : DataW Value} {st : List Int} {pend : Pend} {hs : List Int} {high : Int}
/-- What an instruction comes to. -/
def StepOut (base g m : Nat) (kind : Int) (tv cv : Value) (stk : Int) (n : Nat) (hs : List Int) (high : Int) (r : Option (List Int × Pend)) (w : World) (e : Ending) (w' : World) : Prop :=
  match r with
  | none => e = .returned (.bool false) ∧ Fr base g m w w' ∧ ∃ st' pend', CkAt w' base g m kind tv cv stk (n + 1) st' pend' hs high
  | some (st', pend') => e = .returned (.bool true) ∧ CkAt w' base g m kind tv cv stk (n + 1) st' pend' hs high ∧ Fr base g m w w'
theorem CkInv.mono (h : CkInv w base g m kind tv cv stk sv hv n D st pend hs high) : CkInv w base g m kind tv cv stk sv hv (n + 1) D st pend hs high :=
  ⟨h.blk, h.hb, h.hm, h.stack, h.heights, h.map.mono (Nat.le_succ _), h.isMap, h.pnd, h.none_, h.ap, h.apS, h.apP⟩
theorem CkAt.mono (h : CkAt w base g m kind tv cv stk n st pend hs high) : CkAt w base g m kind tv cv stk (n + 1) st pend hs high := by
  obtain ⟨sv, hv, D, h⟩ := h
  exact ⟨sv, hv, D, h.mono⟩
theorem Fr.ofBelow {base g m : Nat} {w w' : World} (h : Below w.heap.size w w') : Fr base g m w w' :=
  ⟨h.os, h.tape, h.output, h.size, fun k _ hl => h.block k hl, fun k c T q _ _ hc _ => h.block k (Array.getElem?_eq_some_iff.1 hc).1⟩
theorem CkInv.below (h : CkInv w base g m kind tv cv stk sv hv n D st pend hs high) (hb : Below w.heap.size w w') : CkInv w' base g m kind tv cv stk sv hv n D st pend hs high :=
  h.move (fun k hk _ => hb.block k hk)
theorem tops (h : CkInv w base g m kind tv cv stk sv hv n D st pend hs high) (o : Obj) :
    (Calls Tryd.prog 61 #[.pointer (some ⟨g, 0, none⟩), .int .i64 2] (w.alloc o) fun e w' => e = .returned (.int .i64 (topS st 2)) ∧ ∃ q', w' = (w.alloc o).drewN q') ∧
    ∀ q, Calls Tryd.prog 61 #[.pointer (some ⟨g, 0, none⟩), .int .i64 1] ((w.alloc o).drewN q) fun e w' => e = .returned (.int .i64 (topS st 1)) ∧ ∃ q', w' = (w.alloc o).drewN q' := by
  refine ⟨top_any (h.alloc o) 2 (by decide), fun q => ?_⟩
  refine (top_any ((h.alloc o).drewN q) 1 (by decide)).mono ?_
  rintro e w' ⟨rfl, q', rfl⟩
  exact ⟨rfl, q + q', World.drewN_drewN ..⟩

theorem out_none {r : Option (List Int × Pend)} {e : Ending} (hr : r = none) (he : e = .returned (.bool false)) (hf : Fr base g m w w') (hc : ∃ st' pend', CkAt w' base g m kind tv cv stk (n + 1) st' pend' hs high) : StepOut base g m kind tv cv stk n hs high r w e w' := by
  subst hr; exact ⟨he, hf, hc⟩
theorem out_some {r : Option (List Int × Pend)} {st' : List Int} {pend' : Pend} {e : Ending} (hr : r = some (st', pend')) (he : e = .returned (.bool true)) (hc : CkAt w' base g m kind tv cv stk (n + 1) st' pend' hs high) (hf : Fr base g m w w') : StepOut base g m kind tv cv stk n hs high r w e w' := by
  subst hr; exact ⟨he, hc, hf⟩
theorem Fr.box (base g m : Nat) (w : World) (o : Obj) (q : Nat) : Fr base g m w ((w.alloc o).drewN q) := (Fr.alloc base g m w o).trans (Fr.drewN base g m _ q)
theorem out_box (h : CkInv w base g m kind tv cv stk sv hv n D st pend hs high) {r : Option (List Int × Pend)} {e : Ending} {o : Obj} {q : Nat} (hr : r = none) (he : e = .returned (.bool false)) : StepOut base g m kind tv cv stk n hs high r w e ((w.alloc o).drewN q) :=
  out_none hr he (Fr.box ..) ⟨_, _, _, _, _, ((h.alloc _).drewN _).mono⟩
theorem out_box1 (h : CkInv w base g m kind tv cv stk sv hv n D st pend hs high) {r : Option (List Int × Pend)} {e : Ending} {o : Obj} (hr : r = none) (he : e = .returned (.bool false)) : StepOut base g m kind tv cv stk n hs high r w e (w.alloc o) :=
  out_none hr he (Fr.alloc ..) ⟨_, _, _, _, _, (h.alloc _).mono⟩
theorem out_box2 (h : CkInv w base g m kind tv cv stk sv hv n D st pend hs high) {r : Option (List Int × Pend)} {e : Ending} {o : Obj} {q q2 : Nat} (hr : r = none) (he : e = .returned (.bool false)) : StepOut base g m kind tv cv stk n hs high r w e (((w.alloc o).drewN q).drewN q2) :=
  out_none hr he ((Fr.box ..).trans (Fr.drewN ..)) ⟨_, _, _, _, _, (((h.alloc _).drewN _).drewN _).mono⟩

set_option maxHeartbeats 1000000 in
theorem conds_still (h : CkInv w base g m kind tv cv stk sv hv n D st pend hs high) (op i a b : Int) (hbase : base ≤ w.heap.size) (c : Bool) (hop : op = 5 ∧ c = (topS st 1 == 1) ∨ op = 23 ∧ c = (topS st 1 == 4)) (r : Option (List Int × Pend)) (hr : r = if c = true then some (st, pend) else none) :
    Calls Tryd.prog 46 #[.pointer (some ⟨g, 0, none⟩), .int .i64 i, .agg #[.int .u8 op, .int .i64 a, .int .i64 b]] w (StepOut base g m kind tv cv stk n hs high r w) := by
  have HT0 := tops h (.cells #[.int .u8 op, .int .i64 a, .int .i64 b] 23)
  obtain ⟨t1, ht1⟩ : ∃ t1, t1 = topS st 1 := ⟨_, rfl⟩; obtain ⟨t2, ht2⟩ : ∃ t2, t2 = topS st 2 := ⟨_, rfl⟩; rw [← ht1, ← ht2] at HT0; have HT := Lib.hid HT0; have H := Lib.hid h; clear h HT0
  rw [← ht1] at hop
  clear ht1 ht2
  rcases hop with ⟨rfl, hc⟩ | ⟨rfl, hc⟩
  all_goals
    cases c
    all_goals
      have Hr := Lib.hid hr
      have hc' := hc.symm; clear hc
      clear hr
      (go_enter Tryd.func46, Tryd.ntmps46; go_wp2_with fail; refine (HT.out.1).mono ?_; rintro e w' ⟨rfl, q, rfl⟩; go_wp2_with fail; refine (HT.out.2 _).mono ?_; rintro e w' ⟨rfl, q', rfl⟩)
      go_wp2
      go_ret
  all_goals first
    | exact out_box H.out Hr.out (by simp)
    | exact out_some Hr.out (by simp) ⟨_, _, _, ((H.out.alloc _).drewN _).mono⟩ (Fr.box ..)
set_option maxHeartbeats 1000000 in
theorem conds_neg (h : CkInv w base g m kind tv cv stk sv hv n D st pend hs high) (i a b : Int) (hbase : base ≤ w.heap.size) (c : Bool) (hc : c = (topS st 1 == 2 || topS st 1 == 3)) (r : Option (List Int × Pend)) (hr : r = if c = true then some (st, pend) else none) :
    Calls Tryd.prog 46 #[.pointer (some ⟨g, 0, none⟩), .int .i64 i, .agg #[.int .u8 9, .int .i64 a, .int .i64 b]] w (StepOut base g m kind tv cv stk n hs high r w) := by
  have HT0 := tops h (.cells #[.int .u8 9, .int .i64 a, .int .i64 b] 23)
  obtain ⟨t1, ht1⟩ : ∃ t1, t1 = topS st 1 := ⟨_, rfl⟩; obtain ⟨t2, ht2⟩ : ∃ t2, t2 = topS st 2 := ⟨_, rfl⟩; rw [← ht1, ← ht2] at HT0; have HT := Lib.hid HT0; have H := Lib.hid h; clear h HT0
  rw [← ht1] at hc
  clear ht1 ht2
  have HC := Lib.hid hc.symm
  clear hc
  cases c
  all_goals
    have Hr := Lib.hid hr
    clear hr
    (go_enter Tryd.func46, Tryd.ntmps46; go_wp2_with fail; refine (HT.out.1).mono ?_; rintro e w' ⟨rfl, q, rfl⟩; go_wp2_with fail; refine (HT.out.2 _).mono ?_; rintro e w' ⟨rfl, q', rfl⟩)
    go_wp2_with (go_at_call 64; refine (number_any _ _).mono ?_; rintro e w' ⟨rfl, rfl⟩; rw [HC.out])
    go_ret
  · exact out_box H.out Hr.out (by simp)
  · exact out_some Hr.out (by simp) ⟨_, _, _, ((H.out.alloc _).drewN _).mono⟩ (Fr.box ..)
theorem swap1_any (h : CkInv w base g m kind tv cv stk sv hv n D st pend hs high) (k : Int) (h0 : 0 ≤ k) (hk : k ≤ st.length) (y : Int) (pb : Nat) (hy : w.cell? ⟨pb, 0, none⟩ = some (.int .i64 y)) (hl : st.length ≤ 1000000) (hbase : base ≤ w.heap.size) :
    Calls Tryd.prog 63 #[.pointer (some ⟨g, 0, none⟩), .int .i64 k, .slice (some ⟨pb, 0, none⟩) 1 1] w fun e w' =>
      e = .returned (.bool true) ∧ CkAt w' base g m kind tv cv stk n (swapS st k.toNat [y]) pend hs high ∧ Fr base g m w w' := by
  obtain ⟨j, rfl⟩ := Int.eq_ofNat_of_zero_le h0
  exact swap1_walk h j (by omega) y pb hy hl hbase
theorem swap0_any (h : CkInv w base g m kind tv cv stk sv hv n D st pend hs high) (k : Int) (h0 : 0 ≤ k) (hk : k ≤ st.length) (hl : st.length ≤ 1000000) (hbase : base ≤ w.heap.size) :
    Calls Tryd.prog 63 #[.pointer (some ⟨g, 0, none⟩), .int .i64 k, .slice none 0 0] w fun e w' =>
      e = .returned (.bool true) ∧ CkAt w' base g m kind tv cv stk n (swapS st k.toNat []) pend hs high ∧ Fr base g m w w' := by
  obtain ⟨j, rfl⟩ := Int.eq_ofNat_of_zero_le h0
  exact swap0_walk h j (by omega) hl hbase
theorem top_len {st : List Int} {k : Nat} (h : topS st k ≠ 0) : k ≤ st.length := by
  unfold topS at h
  split at h
  · assumption
  · exact absurd rfl h
/-- One thing more on the stack. -/
def pushT (op : Int) : Int := if op = 24 ∨ op = 25 then 4 else 0
set_option maxHeartbeats 1000000 in
theorem conds_push (h : CkInv w base g m kind tv cv stk sv hv n D st pend hs high) (op i a b : Int) (hbase : base ≤ w.heap.size) (hst : st.length ≤ 1000000) (hop : op = 24 ∨ op = 25) (r : Option (List Int × Pend)) (hr : r = some (swapS st 0 [4], pend)) :
    Calls Tryd.prog 46 #[.pointer (some ⟨g, 0, none⟩), .int .i64 i, .agg #[.int .u8 op, .int .i64 a, .int .i64 b]] w (StepOut base g m kind tv cv stk n hs high r w) := by
  have HT0 := tops h (.cells #[.int .u8 op, .int .i64 a, .int .i64 b] 23)
  obtain ⟨t1, ht1⟩ : ∃ t1, t1 = topS st 1 := ⟨_, rfl⟩; obtain ⟨t2, ht2⟩ : ∃ t2, t2 = topS st 2 := ⟨_, rfl⟩; rw [← ht1, ← ht2] at HT0; have HT := Lib.hid HT0; have H := Lib.hid h; clear h HT0
  clear ht1 ht2
  have Hr := Lib.hid hr
  clear hr
  rcases hop with rfl | rfl
  all_goals
    (go_enter Tryd.func46, Tryd.ntmps46; go_wp2_with fail; refine (HT.out.1).mono ?_; rintro e w' ⟨rfl, q, rfl⟩; go_wp2_with fail; refine (HT.out.2 _).mono ?_; rintro e w' ⟨rfl, q', rfl⟩)
    go_wp2_with (go_at_call 63; refine (swap1_any (((H.out.alloc _).alloc _).drewN _) _ (by omega) (by omega) 4 _ (by simp) hst (by simp; omega)).mono ?_; rintro e w' ⟨rfl, hck, hfr⟩)
    go_ret
    exact out_some Hr.out (by simp) hck.mono (((Fr.alloc base g m w _).trans (Fr.box base g m _ _ _)).trans hfr)
theorem top_eq {st : List Int} {k : Nat} {t v : Int} (ht : t = topS st k) (h : (t == v) = true) (hv : v ≠ 0) : k ≤ st.length :=
  top_len (by rw [← ht, beq_iff_eq.1 h]; exact hv)
set_option maxHeartbeats 1000000 in
theorem conds_to (h : CkInv w base g m kind tv cv stk sv hv n D st pend hs high) (op i a b y : Int) (hbase : base ≤ w.heap.size) (hst : st.length ≤ 1000000) (hop : op = 6 ∧ y = 2 ∨ op = 7 ∧ y = 3) (r : Option (List Int × Pend)) (hr : r = if (topS st 1 == 1) = true then some (swapS st 1 [y], pend) else none) :
    Calls Tryd.prog 46 #[.pointer (some ⟨g, 0, none⟩), .int .i64 i, .agg #[.int .u8 op, .int .i64 a, .int .i64 b]] w (StepOut base g m kind tv cv stk n hs high r w) := by
  have HT0 := tops h (.cells #[.int .u8 op, .int .i64 a, .int .i64 b] 23)
  obtain ⟨t1, ht1⟩ : ∃ t1, t1 = topS st 1 := ⟨_, rfl⟩; obtain ⟨t2, ht2⟩ : ∃ t2, t2 = topS st 2 := ⟨_, rfl⟩; rw [← ht1, ← ht2] at HT0; have HT := Lib.hid HT0; have H := Lib.hid h; clear h HT0
  rw [← ht1] at hr
  cases hb : (t1 == 1)
  all_goals
    rw [hb] at hr
    have Hr := Lib.hid hr
    clear hr
  · clear ht1 ht2
    rcases hop with ⟨rfl, rfl⟩ | ⟨rfl, rfl⟩
    all_goals
      (go_enter Tryd.func46, Tryd.ntmps46; go_wp2_with fail; refine (HT.out.1).mono ?_; rintro e w' ⟨rfl, q, rfl⟩; go_wp2_with fail; refine (HT.out.2 _).mono ?_; rintro e w' ⟨rfl, q', rfl⟩)
      go_wp2
      go_ret
      exact out_box H.out Hr.out (by simp)
  · have hl := top_eq ht1 hb (by decide)
    clear ht1 ht2
    rcases hop with ⟨rfl, rfl⟩ | ⟨rfl, rfl⟩
    all_goals
      (go_enter Tryd.func46, Tryd.ntmps46; go_wp2_with fail; refine (HT.out.1).mono ?_; rintro e w' ⟨rfl, q, rfl⟩; go_wp2_with fail; refine (HT.out.2 _).mono ?_; rintro e w' ⟨rfl, q', rfl⟩)
      go_wp2_with (go_at_call 63; refine (swap1_any (((H.out.alloc _).alloc _).drewN _) _ (by omega) (by omega) _ _ (by simp; rfl) hst (by simp; omega)).mono ?_; rintro e w' ⟨rfl, hck, hfr⟩)
      go_ret
      exact out_some Hr.out (by simp) hck.mono (((Fr.alloc base g m w _).trans (Fr.box base g m _ _ _)).trans hfr)
set_option maxHeartbeats 1000000 in
theorem conds_note (h : CkInv w base g m kind tv cv stk sv hv n D st pend hs high) (i a b : Int) (hbase : base ≤ w.heap.size) (hst : st.length ≤ 1000000) (r : Option (List Int × Pend)) (hr : r = if (topS st 1 == 1) = true then some (swapS st 1 [], pend) else none) :
    Calls Tryd.prog 46 #[.pointer (some ⟨g, 0, none⟩), .int .i64 i, .agg #[.int .u8 31, .int .i64 a, .int .i64 b]] w (StepOut base g m kind tv cv stk n hs high r w) := by
  have HT0 := tops h (.cells #[.int .u8 31, .int .i64 a, .int .i64 b] 23)
  obtain ⟨t1, ht1⟩ : ∃ t1, t1 = topS st 1 := ⟨_, rfl⟩; obtain ⟨t2, ht2⟩ : ∃ t2, t2 = topS st 2 := ⟨_, rfl⟩; rw [← ht1, ← ht2] at HT0; have HT := Lib.hid HT0; have H := Lib.hid h; clear h HT0
  rw [← ht1] at hr
  cases hb : (t1 == 1)
  all_goals
    rw [hb] at hr
    have Hr := Lib.hid hr
    clear hr
  · clear ht1 ht2
    (go_enter Tryd.func46, Tryd.ntmps46; go_wp2_with fail; refine (HT.out.1).mono ?_; rintro e w' ⟨rfl, q, rfl⟩; go_wp2_with fail; refine (HT.out.2 _).mono ?_; rintro e w' ⟨rfl, q', rfl⟩)
    go_wp2
    go_ret
    exact out_box H.out Hr.out (by simp)
  · have hl := top_eq ht1 hb (by decide)
    clear ht1 ht2
    (go_enter Tryd.func46, Tryd.ntmps46; go_wp2_with fail; refine (HT.out.1).mono ?_; rintro e w' ⟨rfl, q, rfl⟩; go_wp2_with fail; refine (HT.out.2 _).mono ?_; rintro e w' ⟨rfl, q', rfl⟩)
    go_wp2_with (go_at_call 63; refine (swap0_any ((H.out.alloc _).drewN _) _ (by omega) (by omega) hst (by simp; omega)).mono ?_; rintro e w' ⟨rfl, hck, hfr⟩)
    go_ret
    exact out_some Hr.out (by simp) hck.mono ((Fr.box base g m w _ _).trans hfr)
set_option maxHeartbeats 1000000 in
theorem conds_unguard (h : CkInv w base g m kind tv cv stk sv hv n D st pend hs high) (i a b : Int) (hbase : base ≤ w.heap.size) (hst : st.length ≤ 1000000) (r : Option (List Int × Pend)) (hr : r = if 8 ≤ topS st 1 then some (swapS st 1 [], pend) else none) :
    Calls Tryd.prog 46 #[.pointer (some ⟨g, 0, none⟩), .int .i64 i, .agg #[.int .u8 30, .int .i64 a, .int .i64 b]] w (StepOut base g m kind tv cv stk n hs high r w) := by
  have HT0 := tops h (.cells #[.int .u8 30, .int .i64 a, .int .i64 b] 23)
  obtain ⟨t1, ht1⟩ : ∃ t1, t1 = topS st 1 := ⟨_, rfl⟩; obtain ⟨t2, ht2⟩ : ∃ t2, t2 = topS st 2 := ⟨_, rfl⟩; rw [← ht1, ← ht2] at HT0; have HT := Lib.hid HT0; have H := Lib.hid h; clear h HT0
  rw [← ht1] at hr
  by_cases hb : 8 ≤ t1
  · rw [if_pos hb] at hr
    have Hr := Lib.hid hr
    clear hr
    have hl : 1 ≤ st.length := top_len (k := 1) (by rw [← ht1]; omega)
    clear ht1 ht2
    (go_enter Tryd.func46, Tryd.ntmps46; go_wp2_with fail; refine (HT.out.1).mono ?_; rintro e w' ⟨rfl, q, rfl⟩; go_wp2_with fail; refine (HT.out.2 _).mono ?_; rintro e w' ⟨rfl, q', rfl⟩)
    go_wp2_with (first | (go_at_call 60; refine (mark_any _ _).mono ?_; rintro e w' ⟨rfl, rfl⟩) | (go_at_call 63; refine (swap0_any ((H.out.alloc _).drewN _) _ (by omega) (by omega) hst (by simp; omega)).mono ?_; rintro e w' ⟨rfl, hck, hfr⟩))
    go_ret
    exact out_some Hr.out (by simp) hck.mono ((Fr.box base g m w _ _).trans hfr)
  · rw [if_neg hb] at hr
    have Hr := Lib.hid hr
    clear hr ht1 ht2
    (go_enter Tryd.func46, Tryd.ntmps46; go_wp2_with fail; refine (HT.out.1).mono ?_; rintro e w' ⟨rfl, q, rfl⟩; go_wp2_with fail; refine (HT.out.2 _).mono ?_; rintro e w' ⟨rfl, q', rfl⟩)
    go_wp2_with (go_at_call 60; refine (mark_any _ _).mono ?_; rintro e w' ⟨rfl, rfl⟩)
    go_ret
    exact out_box H.out Hr.out (by simp)
set_option maxHeartbeats 1000000 in
theorem conds_texts (h : CkInv w base g m kind tv cv stk sv hv n D st pend hs high) (op i a b y : Int) (hbase : base ≤ w.heap.size) (hst : st.length ≤ 1000000) (hop : op = 8 ∧ y = 1 ∨ op = 22 ∧ y = 4) (r : Option (List Int × Pend)) (hr : r = if (topS st 2 == 1 && topS st 1 == 1) = true then some (swapS st 2 [y], pend) else none) :
    Calls Tryd.prog 46 #[.pointer (some ⟨g, 0, none⟩), .int .i64 i, .agg #[.int .u8 op, .int .i64 a, .int .i64 b]] w (StepOut base g m kind tv cv stk n hs high r w) := by
  have HT0 := tops h (.cells #[.int .u8 op, .int .i64 a, .int .i64 b] 23)
  obtain ⟨t1, ht1⟩ : ∃ t1, t1 = topS st 1 := ⟨_, rfl⟩; obtain ⟨t2, ht2⟩ : ∃ t2, t2 = topS st 2 := ⟨_, rfl⟩; rw [← ht1, ← ht2] at HT0; have HT := Lib.hid HT0; have H := Lib.hid h; clear h HT0
  rw [← ht1, ← ht2] at hr
  cases hb2 : (t2 == 1)
  · rw [hb2] at hr
    have Hr := Lib.hid hr
    clear hr ht1 ht2
    rcases hop with ⟨rfl, rfl⟩ | ⟨rfl, rfl⟩
    all_goals
      (go_enter Tryd.func46, Tryd.ntmps46; go_wp2_with fail; refine (HT.out.1).mono ?_; rintro e w' ⟨rfl, q, rfl⟩; go_wp2_with fail; refine (HT.out.2 _).mono ?_; rintro e w' ⟨rfl, q', rfl⟩)
      go_wp2
      go_ret
      exact out_box H.out Hr.out (by simp)
  · have hl := top_eq ht2 hb2 (by decide)
    cases hb : (t1 == 1)
    all_goals
      rw [hb, hb2] at hr
      have Hr := Lib.hid hr
      clear hr ht1 ht2
    · rcases hop with ⟨rfl, rfl⟩ | ⟨rfl, rfl⟩
      all_goals
        (go_enter Tryd.func46, Tryd.ntmps46; go_wp2_with fail; refine (HT.out.1).mono ?_; rintro e w' ⟨rfl, q, rfl⟩; go_wp2_with fail; refine (HT.out.2 _).mono ?_; rintro e w' ⟨rfl, q', rfl⟩)
        go_wp2
        go_ret
        exact out_box H.out Hr.out (by simp)
    · rcases hop with ⟨rfl, rfl⟩ | ⟨rfl, rfl⟩
      all_goals
        (go_enter Tryd.func46, Tryd.ntmps46; go_wp2_with fail; refine (HT.out.1).mono ?_; rintro e w' ⟨rfl, q, rfl⟩; go_wp2_with fail; refine (HT.out.2 _).mono ?_; rintro e w' ⟨rfl, q', rfl⟩)
        go_wp2_with (go_at_call 63; refine (swap1_any (((H.out.alloc _).alloc _).drewN _) _ (by omega) (by omega) _ _ (by simp; rfl) hst (by simp; omega)).mono ?_; rintro e w' ⟨rfl, hck, hfr⟩)
        go_ret
        exact out_some Hr.out (by simp) hck.mono (((Fr.alloc base g m w _).trans (Fr.box base g m _ _ _)).trans hfr)
set_option maxHeartbeats 1000000 in
theorem conds_top (h : CkInv w base g m kind tv cv stk sv hv n D st pend hs high) (i a b : Int) (hbase : base ≤ w.heap.size) (r : Option (List Int × Pend)) (hr : r = some (st, pend)) :
    Calls Tryd.prog 46 #[.pointer (some ⟨g, 0, none⟩), .int .i64 i, .agg #[.int .u8 32, .int .i64 a, .int .i64 b]] w (StepOut base g m kind tv cv stk n hs high r w) := by
  have HT0 := tops h (.cells #[.int .u8 32, .int .i64 a, .int .i64 b] 23)
  obtain ⟨t1, ht1⟩ : ∃ t1, t1 = topS st 1 := ⟨_, rfl⟩; obtain ⟨t2, ht2⟩ : ∃ t2, t2 = topS st 2 := ⟨_, rfl⟩; rw [← ht1, ← ht2] at HT0; have HT := Lib.hid HT0; have H := Lib.hid h; clear h HT0
  clear ht1 ht2
  have Hr := Lib.hid hr
  clear hr
  (go_enter Tryd.func46, Tryd.ntmps46; go_wp2_with fail; refine (HT.out.1).mono ?_; rintro e w' ⟨rfl, q, rfl⟩; go_wp2_with fail; refine (HT.out.2 _).mono ?_; rintro e w' ⟨rfl, q', rfl⟩)
  go_wp2
  go_ret
  exact out_some Hr.out (by simp) ⟨_, _, _, ((H.out.alloc _).drewN _).mono⟩ (Fr.box ..)
set_option maxHeartbeats 1000000 in
theorem conds_end (h : CkInv w base g m kind tv cv stk sv hv n D st pend hs high) (i a b : Int) (hbase : base ≤ w.heap.size) (r : Option (List Int × Pend)) (hr : r = if st.length = 0 then some (st, pend) else none) :
    Calls Tryd.prog 46 #[.pointer (some ⟨g, 0, none⟩), .int .i64 i, .agg #[.int .u8 33, .int .i64 a, .int .i64 b]] w (StepOut base g m kind tv cv stk n hs high r w) := by
  have HT0 := tops h (.cells #[.int .u8 33, .int .i64 a, .int .i64 b] 23)
  obtain ⟨A, cap, rfl, hc1, hc2⟩ := h.stack.slice
  have hc4 := h.cell.2.2.2.2.1
  have hg4 : g < w.heap.size := cell_lt hc4
  obtain ⟨t1, ht1⟩ : ∃ t1, t1 = topS st 1 := ⟨_, rfl⟩; obtain ⟨t2, ht2⟩ : ∃ t2, t2 = topS st 2 := ⟨_, rfl⟩; rw [← ht1, ← ht2] at HT0; have HT := Lib.hid HT0; have H := Lib.hid h; clear h HT0
  clear ht1 ht2
  generalize st.length = L at *
  by_cases h0 : L = 0
  · rw [if_pos h0] at hr
    have Hr := Lib.hid hr
    subst h0
    clear hr
    (go_enter Tryd.func46, Tryd.ntmps46; go_wp2_with fail; refine (HT.out.1).mono ?_; rintro e w' ⟨rfl, q, rfl⟩; go_wp2_with fail; refine (HT.out.2 _).mono ?_; rintro e w' ⟨rfl, q', rfl⟩)
    go_wp2
    go_ret
    exact out_some Hr.out (by simp) ⟨_, _, _, ((H.out.alloc _).drewN _).mono⟩ (Fr.box ..)
  · rw [if_neg h0] at hr
    have Hr := Lib.hid hr
    have hne : ((L : Int) == 0) = false := by simp; omega
    clear hr
    (go_enter Tryd.func46, Tryd.ntmps46; go_wp2_with fail; refine (HT.out.1).mono ?_; rintro e w' ⟨rfl, q, rfl⟩; go_wp2_with fail; refine (HT.out.2 _).mono ?_; rintro e w' ⟨rfl, q', rfl⟩)
    go_wp2
    go_ret
    exact out_box H.out Hr.out (by simp)
set_option maxHeartbeats 1000000 in
theorem conds_other (h : CkInv w base g m kind tv cv stk sv hv n D st pend hs high) (op i a b : Int) (hbase : base ≤ w.heap.size) (hop : 34 ≤ op) (r : Option (List Int × Pend)) (hr : r = none) :
    Calls Tryd.prog 46 #[.pointer (some ⟨g, 0, none⟩), .int .i64 i, .agg #[.int .u8 op, .int .i64 a, .int .i64 b]] w (StepOut base g m kind tv cv stk n hs high r w) := by
  have HT0 := tops h (.cells #[.int .u8 op, .int .i64 a, .int .i64 b] 23)
  obtain ⟨t1, ht1⟩ : ∃ t1, t1 = topS st 1 := ⟨_, rfl⟩; obtain ⟨t2, ht2⟩ : ∃ t2, t2 = topS st 2 := ⟨_, rfl⟩; rw [← ht1, ← ht2] at HT0; have HT := Lib.hid HT0; have H := Lib.hid h; clear h HT0
  clear ht1 ht2
  have Hr := Lib.hid hr
  clear hr
  (go_enter Tryd.func46, Tryd.ntmps46; go_wp2_with fail; refine (HT.out.1).mono ?_; rintro e w' ⟨rfl, q, rfl⟩; go_wp2_with fail; refine (HT.out.2 _).mono ?_; rintro e w' ⟨rfl, q', rfl⟩)
  go_wp2
  go_ret
  exact out_box H.out Hr.out (by simp)
end
end Go.Proofs.YtkjhdgomkdemkaaDoor
