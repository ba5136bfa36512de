import Derived.Test.YtkjhdgomkdemkaaDoorB6
import Derived.BigQuiet
import Derived.Deep.RegionHeld3
/-! An instruction of a program for conditions: those that lead on. -/
namespace Go.Proofs.YtkjhdgomkdemkaaDoor
open Go.RowKit
theorem at_drop {l : List Oper} {i : Nat} {o : Oper} {rest : List Oper} (h : l.drop i = o :: rest) : l.toArray[i]? = some o := by
  have := congrArg (fun x => x[0]?) h
  simpa using this
set_option linter.unusedVariables false
set_option maxRecDepth 100000
section
variable {w w' : World} {base g m : Nat} {kind : Int} {tv cv : Value} {stk : Int} {sv hv : Value} {n : Nat} {D : DataW Value} {st : List Int} {pend : Pend} {hs : List Int} {high : Int}
def FwOut (base g m : Nat) (kind : Int) (tv cv : Value) (stk : Int) (n : Nat) (st : List Int) (hs : List Int) (high : Int) (r : Option Pend) (w : World) (e : Ending) (w' : World) : Prop :=
  match r with
  | none => e = .returned (.bool false) ∧ Fr base g m w w' ∧ ∃ p, CkAt w' base g m kind tv cv stk (n + 1) st p hs high
  | some p => e = .returned (.bool true) ∧ CkAt w' base g m kind tv cv stk (n + 1) st p hs high ∧ Fr base g m w w'
theorem forward_any (h : CkInv w base g m kind tv cv stk sv hv n D st pend hs high) (i a : Int) (A : Option Addr) (len cap : Nat) (hcv : cv = .slice A len cap) (hi : 0 ≤ i) (hlen : len ≤ 1000000) (hn : n ≤ 1000000) (hst : st.length ≤ 1000000) (hbase : base ≤ w.heap.size) :
    Calls Tryd.prog 66 #[.pointer (some ⟨g, 0, none⟩), .int .i64 i, .int .i64 a, sv] w (FwOut base g m kind tv cv stk n st hs high (forwardS len pend i a st) w) := by
  by_cases h0 : a ≤ i ∨ (len : Int) ≤ a
  · have hF : forwardS len pend i a st = none := by unfold forwardS; rw [if_pos h0]
    rw [hF]
    refine (forward_none h i a A len cap hcv h0).mono ?_
    rintro e w' ⟨rfl, rfl⟩
    exact ⟨rfl, Fr.refl .., ⟨_, _, _, _, h.mono⟩⟩
  · have h1 : i < a := by omega
    have h2 : a < (len : Int) := by omega
    cases hm : mget D (.int .i64 a) with
    | none =>
      have hF : forwardS len pend i a st = some (fun k => if k = a then some st else pend k) := by unfold forwardS; rw [if_neg h0, h.none_ a hm]
      rw [hF]
      exact forward_new h i a A len cap hcv hi h1 h2 hlen hn hst hbase hm
    | some v =>
      obtain ⟨t, ht, hr⟩ := h.pnd a v hm
      by_cases he : t = st
      · have hF : forwardS len pend i a st = some pend := by unfold forwardS; rw [if_neg h0, ht]; simp [he]
        rw [hF]
        refine (forward_same h i a A len cap hcv hi h1 h2 hlen v t hm hr he).mono ?_
        rintro e w' ⟨rfl, q, rfl⟩
        exact ⟨rfl, ⟨_, _, _, (h.drewN q).mono⟩, Fr.drewN ..⟩
      · have hF : forwardS len pend i a st = some (fun k => if k = a then some [0] else pend k) := by unfold forwardS; rw [if_neg h0, ht]; simp [he]
        rw [hF]
        exact forward_diff h i a A len cap hcv hi h1 h2 hlen hn hbase v t hm hr he
theorem Fr.box2 (base g m : Nat) (w : World) (o : Obj) (q q2 : Nat) : Fr base g m w (((w.alloc o).drewN q).drewN q2) := (Fr.box base g m w o q).trans (Fr.drewN base g m _ q2)
theorem Fr.cells {W W' : World} (hf : Fr base g m W W') {k : Nat} {c : Array Value} {T : TypeId} (hW : W.heap[k]? = some (.cells c T (0, 0))) (hT : T ≠ 3) (hg : k ≠ g) (hm : k ≠ m) (j : Nat) (v : Value) (hv : c[j]? = some v) : W'.cell? ⟨k, j, none⟩ = some v := by
  rw [cell_of_row W' k j _ _ _ ((hf.else_ k c T _ hg hm hW hT).trans hW), hv]
theorem box_new (w : World) (o : Obj) (q : Nat) : ((w.alloc o).drewN q).heap[w.heap.size]? = some o := heap_alloc_new w o
theorem CkInv.lt (h : CkInv w base g m kind tv cv stk sv hv n D st pend hs high) : g < w.heap.size ∧ m < w.heap.size := by
  obtain ⟨es, clock, hb⟩ := h.mapBlk
  exact ⟨(Array.getElem?_eq_some_iff.1 h.blk).1, (Array.getElem?_eq_some_iff.1 hb).1⟩
theorem fw_false (p : Option Pend) (hp : p = none) {e : Ending} (h : FwOut base g m kind tv cv stk n st hs high p w e w') : e = .returned (.bool false) ∧ Hid (Fr base g m w w') ∧ Hid (∃ st p, CkAt w' base g m kind tv cv stk (n + 1) st p hs high) := by
  subst hp; exact ⟨h.1, Lib.hid h.2.1, Lib.hid ⟨st, h.2.2⟩⟩
theorem fw_true (p : Option Pend) (p' : Pend) (hp : p = some p') {e : Ending} (h : FwOut base g m kind tv cv stk n st hs high p w e w') : e = .returned (.bool true) ∧ ∃ sv' hv' D', Hid (CkInv w' base g m kind tv cv stk sv' hv' (n + 1) D' st p' hs high) ∧ Hid (Fr base g m w w') ∧ w'.cell? ⟨g, 4, none⟩ = some sv' := by
  subst hp
  obtain ⟨h1, ⟨sv', hv', D', h2⟩, h3⟩ := h
  exact ⟨h1, sv', hv', D', Lib.hid h2, Lib.hid h3, h2.cell.2.2.2.2.1⟩
set_option maxHeartbeats 1000000 in
theorem conds_andor (h : CkInv w base g m kind tv cv stk sv hv n D st pend hs high) (op i a b : Int) (hbase : base ≤ w.heap.size) (hst : st.length ≤ 1000000) (hop : op = 26 ∨ op = 27)
    (A : Option Addr) (len cap : Nat) (hcv : cv = .slice A len cap) (hi : 0 ≤ i) (hlen : len ≤ 1000000) (hn : n ≤ 1000000)
    (p : Option Pend) (hp : p = forwardS len pend i a st) (r : Option (List Int × Pend)) (hr : r = if (topS st 1 == 4) = true then p.map (fun p => (swapS st 1 [], p)) else none) :
    Calls Tryd.prog 46 #[.pointer (some ⟨g, 0, none⟩), .int .i64 i, .agg #[.int .u8 op, .int .i64 a, .int .i64 b]] w (StepOut base g m kind tv cv stk n hs high r w) := by
  have HT0 := tops h (.cells #[.int .u8 op, .int .i64 a, .int .i64 b] 23)
  have hc4 := h.cell.2.2.2.2.1
  have hg4 : g < w.heap.size := cell_lt hc4
  have hng : w.heap.size ≠ g := by have := h.lt; omega
  have hnm : w.heap.size ≠ m := by have := h.lt; omega
  have HF := Lib.hid (fun w' h' hb' => forward_any (w := w') (sv := sv) (hv := hv) (n := n) (D := D) (pend := pend) (hs := hs) (high := high) (base := base) (g := g) (m := m) (kind := kind) (tv := tv) (cv := cv) (stk := stk) (st := st) h' i a A len cap hcv hi hlen hn hst hb')
  rw [← hp] at HF
  clear hp
  obtain ⟨t1, ht1⟩ : ∃ t1, t1 = topS st 1 := ⟨_, rfl⟩; obtain ⟨t2, ht2⟩ : ∃ t2, t2 = topS st 2 := ⟨_, rfl⟩; rw [← ht1, ← ht2] at HT0; have HT := Lib.hid HT0; have H := Lib.hid h; clear h HT0
  rw [← ht1] at hr
  cases hb : (t1 == 4)
  · rw [hb] at hr
    have Hr := Lib.hid hr
    clear hr ht1 ht2
    rcases hop with rfl | rfl
    all_goals
      (go_enter Tryd.func46, Tryd.ntmps46; go_wp2_with fail; refine (HT.out.1).mono ?_; rintro e w' ⟨rfl, q, rfl⟩; go_wp2_with fail; refine (HT.out.2 _).mono ?_; rintro e w' ⟨rfl, q', rfl⟩)
      go_wp2_with fail
      go_quiet (fail)
      go_wp2
      go_ret
      exact out_box2 H.out Hr.out (by simp)
  · have hl := top_eq ht1 hb (by decide)
    rw [hb] at hr
    clear ht1 ht2
    have h4 : t1 = 4 := beq_iff_eq.1 hb
    subst h4
    clear hb
    cases hp : p with
    | none =>
      rw [hp] at hr
      have Hp := Lib.hid hp
      have Hr := Lib.hid hr
      clear hr hp
      rcases hop with rfl | rfl
      all_goals
        (go_enter Tryd.func46, Tryd.ntmps46; go_wp2_with fail; refine (HT.out.1).mono ?_; rintro e w' ⟨rfl, q, rfl⟩; go_wp2_with fail; refine (HT.out.2 _).mono ?_; rintro e w' ⟨rfl, q', rfl⟩)
        go_wp2
        refine wp_region_held_drew (S := (fun w' => w'.cell? ⟨w.heap.size, 1, none⟩ = some (.int .i64 a))) (by kernel_rfl) ?_ (fun hHeld => ?_)
        · ((try dsimp only) <;> (first | go_keep | assumption))
        refine wpAnyH_take (i := 0) (v := ?_) (at_drop rfl) (by kernel_rfl) (by kernel_rfl) (by kernel_rfl) (fun _ _ _ h => h) (Or.inl ⟨by rfl, ?_⟩) (by assumption) ?_
        rotate_left 1
        · (intro w hSw; (try dsimp only at hSw); go_simp; try (with_reducible rfl))
        try simp only [Act.put, List.setIfInBounds_toArray, List.set_cons_zero, List.set_cons_succ]
        refine wpAnyH_take (i := 1) (v := ?_) (at_drop rfl) (by kernel_rfl) (by kernel_rfl) (by kernel_rfl) (fun _ _ _ h => h) (Or.inl ⟨by rfl, ?_⟩) (by assumption) ?_
        rotate_left 1
        · (intro w hSw; (try dsimp only at hSw); go_simp; try (with_reducible rfl))
        try simp only [Act.put, List.setIfInBounds_toArray, List.set_cons_zero, List.set_cons_succ]
        refine wpAnyH_take (i := 2) (v := ?_) (at_drop rfl) (by kernel_rfl) (by kernel_rfl) (by kernel_rfl) (fun _ _ _ h => h) (Or.inl ⟨by rfl, ?_⟩) (by assumption) ?_
        rotate_left 1
        · (intro w hSw; (try dsimp only at hSw); go_simp; try (with_reducible rfl))
        try simp only [Act.put, List.setIfInBounds_toArray, List.set_cons_zero, List.set_cons_succ]
        refine wpAnyH_take (i := 3) (v := ?_) (at_drop rfl) (by kernel_rfl) (by kernel_rfl) (by kernel_rfl) (fun _ _ _ h => h) (Or.inl ⟨by rfl, ?_⟩) (by assumption) ?_
        rotate_left 1
        · (intro w hSw; (try dsimp only at hSw); go_simp; try (with_reducible rfl))
        try simp only [Act.put, List.setIfInBounds_toArray, List.set_cons_zero, List.set_cons_succ]
        refine wpAnyH_take (i := 4) (v := ?_) (at_drop rfl) (by kernel_rfl) (by kernel_rfl) (by kernel_rfl) (fun _ _ _ h => h) (Or.inl ⟨by rfl, ?_⟩) (by assumption) ?_
        rotate_left 1
        · (intro w hSw; (try dsimp only at hSw); go_simp; try (with_reducible rfl))
        try simp only [Act.put, List.setIfInBounds_toArray, List.set_cons_zero, List.set_cons_succ]
        refine wpAnyH_take (i := 5) (v := ?_) (at_drop rfl) (by kernel_rfl) (by kernel_rfl) (by kernel_rfl) (fun _ _ _ h => h) (Or.inl ⟨by rfl, ?_⟩) (by assumption) ?_
        rotate_left 1
        · (intro w hSw; (try dsimp only at hSw); go_simp; try (with_reducible rfl))
        try simp only [Act.put, List.setIfInBounds_toArray, List.set_cons_zero, List.set_cons_succ]
        refine wpAnyH_take (i := 6) (v := ?_) (at_drop rfl) (by kernel_rfl) (by kernel_rfl) (by kernel_rfl) (fun _ _ _ h => h) (Or.inl ⟨by rfl, ?_⟩) (by assumption) ?_
        rotate_left 1
        · (intro w hSw; (try dsimp only at hSw); go_simp; try (with_reducible rfl))
        try simp only [Act.put, List.setIfInBounds_toArray, List.set_cons_zero, List.set_cons_succ]
        refine wpAnyH_take (i := 7) (v := ?_) (at_drop rfl) (by kernel_rfl) (by kernel_rfl) (by kernel_rfl) (fun _ _ _ h => h) (Or.inl ⟨by rfl, ?_⟩) (by assumption) ?_
        rotate_left 1
        · (intro w hSw; (try dsimp only at hSw); go_simp; try (with_reducible rfl))
        try simp only [Act.put, List.setIfInBounds_toArray, List.set_cons_zero, List.set_cons_succ]
        refine wpAnyH_take (i := 8) (v := ?_) (at_drop rfl) (by kernel_rfl) (by kernel_rfl) (by kernel_rfl) (fun _ _ _ h => h) (Or.inl ⟨by rfl, ?_⟩) (by assumption) ?_
        rotate_left 1
        · (intro w hSw; (try dsimp only at hSw); go_simp; try (with_reducible rfl))
        try simp only [Act.put, List.setIfInBounds_toArray, List.set_cons_zero, List.set_cons_succ]
        refine wpAnyH_take (i := 9) (v := ?_) (at_drop rfl) (by kernel_rfl) (by kernel_rfl) (by kernel_rfl) (fun _ _ _ h => h) (Or.inl ⟨by rfl, ?_⟩) (by assumption) ?_
        rotate_left 1
        · (intro w hSw; (try dsimp only at hSw); go_simp; try (with_reducible rfl))
        try simp only [Act.put, List.setIfInBounds_toArray, List.set_cons_zero, List.set_cons_succ]
        refine wpAnyH_ready (rs := [10]) (by kernel_rfl) (by simp) ?_
        refine AllReadyH.cons (at_drop rfl) (fun K hK => ?_) AllReadyH.nil
        go_simp
        refine hK.out _ _ ?_ (fun hHeld' => ?_)
        · ((try dsimp only) <;> (first | go_keep | assumption))
        clear hK K hHeld
        have hHeld := hHeld'
        clear hHeld'
        try simp only [Act.put, List.setIfInBounds_toArray, List.set_cons_zero, List.set_cons_succ]
        refine wpAnyH_ready (rs := [11]) (by kernel_rfl) (by simp) ?_
        refine AllReadyH.cons (at_drop rfl) (fun K hK => ?_) AllReadyH.nil
        go_simp
        (go_at_call 66; refine (HF.out _ ((H.out.alloc _).drewN _) (by simp; omega)).mono ?_; intro e w' hx; obtain ⟨rfl, hfr, hfc⟩ := fw_false p Hp.out hx; have hbx := hfr.out.cells (box_new w _ _) (by decide) hng hnm 1 _ rfl; clear hx)
        go_wp2_with fail
        refine hK.out _ _ ?_ (fun hHeld' => ?_)
        · ((try dsimp only) <;> (first | go_keep | assumption))
        clear hK K hHeld
        have hHeld := hHeld'
        clear hHeld'
        try simp only [Act.put, List.setIfInBounds_toArray, List.set_cons_zero, List.set_cons_succ]
        refine wpAnyH_take (i := 12) (v := ?_) (at_drop rfl) (by kernel_rfl) (by kernel_rfl) (by kernel_rfl) (fun _ _ _ h => h) (Or.inl ⟨by rfl, ?_⟩) (by assumption) ?_
        rotate_left 1
        · (intro w hSw; (try dsimp only at hSw); go_simp; try (with_reducible rfl))
        try simp only [Act.put, List.setIfInBounds_toArray, List.set_cons_zero, List.set_cons_succ]
        refine wpAnyH_take (i := 13) (v := ?_) (at_drop rfl) (by kernel_rfl) (by kernel_rfl) (by kernel_rfl) (fun _ _ _ h => h) (Or.inl ⟨by rfl, ?_⟩) (by assumption) ?_
        rotate_left 1
        · (intro w hSw; (try dsimp only at hSw); go_simp; try (with_reducible rfl))
        try simp only [Act.put, List.setIfInBounds_toArray, List.set_cons_zero, List.set_cons_succ]
        refine wpAnyH_take (i := 14) (v := undef) (at_drop rfl) (by kernel_rfl) (by kernel_rfl) (by kernel_rfl) (fun _ _ _ h => h) (Or.inr ⟨by rfl, rfl⟩) (by assumption) ?_
        try simp only [Act.put, List.setIfInBounds_toArray, List.set_cons_zero, List.set_cons_succ]
        refine wpAnyH_take (i := 15) (v := undef) (at_drop rfl) (by kernel_rfl) (by kernel_rfl) (by kernel_rfl) (fun _ _ _ h => h) (Or.inr ⟨by rfl, rfl⟩) (by assumption) ?_
        try simp only [Act.put, List.setIfInBounds_toArray, List.set_cons_zero, List.set_cons_succ]
        refine wpAnyH_take (i := 16) (v := ?_) (at_drop rfl) (by kernel_rfl) (by kernel_rfl) (by kernel_rfl) (fun _ _ _ h => h) (Or.inl ⟨by rfl, ?_⟩) (by assumption) ?_
        rotate_left 1
        · (intro w hSw; (try dsimp only at hSw); go_simp; try (with_reducible rfl))
        try simp only [Act.put, List.setIfInBounds_toArray, List.set_cons_zero, List.set_cons_succ]
        refine wpAnyH_take (i := 17) (v := ?_) (at_drop rfl) (by kernel_rfl) (by kernel_rfl) (by kernel_rfl) (fun _ _ _ h => h) (Or.inl ⟨by rfl, ?_⟩) (by assumption) ?_
        rotate_left 1
        · (intro w hSw; (try dsimp only at hSw); go_simp; try (with_reducible rfl))
        try simp only [Act.put, List.setIfInBounds_toArray, List.set_cons_zero, List.set_cons_succ]
        refine wpAnyH_done (by kernel_rfl) ?_ _
        go_wp2
        go_ret
        exact out_none Hr.out (by simp) ((Fr.box ..).trans hfr.out) hfc.out
    | some p' =>
      rw [hp] at hr
      have Hp := Lib.hid hp
      have Hr := Lib.hid hr
      clear hr hp
      rcases hop with rfl | rfl
      all_goals
        (go_enter Tryd.func46, Tryd.ntmps46; go_wp2_with fail; refine (HT.out.1).mono ?_; rintro e w' ⟨rfl, q, rfl⟩; go_wp2_with fail; refine (HT.out.2 _).mono ?_; rintro e w' ⟨rfl, q', rfl⟩)
        go_wp2_with fail
        refine wp_region_held_drew (S := (fun w' => w'.cell? ⟨w.heap.size, 1, none⟩ = some (.int .i64 a))) (by kernel_rfl) ?_ (fun hHeld => ?_)
        · ((try dsimp only) <;> (first | go_keep | assumption))
        refine wpAnyH_take (i := 0) (v := ?_) (at_drop rfl) (by kernel_rfl) (by kernel_rfl) (by kernel_rfl) (fun _ _ _ h => h) (Or.inl ⟨by rfl, ?_⟩) (by assumption) ?_
        rotate_left 1
        · (intro w hSw; (try dsimp only at hSw); go_simp; try (with_reducible rfl))
        try simp only [Act.put, List.setIfInBounds_toArray, List.set_cons_zero, List.set_cons_succ]
        refine wpAnyH_take (i := 1) (v := ?_) (at_drop rfl) (by kernel_rfl) (by kernel_rfl) (by kernel_rfl) (fun _ _ _ h => h) (Or.inl ⟨by rfl, ?_⟩) (by assumption) ?_
        rotate_left 1
        · (intro w hSw; (try dsimp only at hSw); go_simp; try (with_reducible rfl))
        try simp only [Act.put, List.setIfInBounds_toArray, List.set_cons_zero, List.set_cons_succ]
        refine wpAnyH_take (i := 2) (v := ?_) (at_drop rfl) (by kernel_rfl) (by kernel_rfl) (by kernel_rfl) (fun _ _ _ h => h) (Or.inl ⟨by rfl, ?_⟩) (by assumption) ?_
        rotate_left 1
        · (intro w hSw; (try dsimp only at hSw); go_simp; try (with_reducible rfl))
        try simp only [Act.put, List.setIfInBounds_toArray, List.set_cons_zero, List.set_cons_succ]
        refine wpAnyH_take (i := 3) (v := ?_) (at_drop rfl) (by kernel_rfl) (by kernel_rfl) (by kernel_rfl) (fun _ _ _ h => h) (Or.inl ⟨by rfl, ?_⟩) (by assumption) ?_
        rotate_left 1
        · (intro w hSw; (try dsimp only at hSw); go_simp; try (with_reducible rfl))
        try simp only [Act.put, List.setIfInBounds_toArray, List.set_cons_zero, List.set_cons_succ]
        refine wpAnyH_take (i := 4) (v := ?_) (at_drop rfl) (by kernel_rfl) (by kernel_rfl) (by kernel_rfl) (fun _ _ _ h => h) (Or.inl ⟨by rfl, ?_⟩) (by assumption) ?_
        rotate_left 1
        · (intro w hSw; (try dsimp only at hSw); go_simp; try (with_reducible rfl))
        try simp only [Act.put, List.setIfInBounds_toArray, List.set_cons_zero, List.set_cons_succ]
        refine wpAnyH_take (i := 5) (v := ?_) (at_drop rfl) (by kernel_rfl) (by kernel_rfl) (by kernel_rfl) (fun _ _ _ h => h) (Or.inl ⟨by rfl, ?_⟩) (by assumption) ?_
        rotate_left 1
        · (intro w hSw; (try dsimp only at hSw); go_simp; try (with_reducible rfl))
        try simp only [Act.put, List.setIfInBounds_toArray, List.set_cons_zero, List.set_cons_succ]
        refine wpAnyH_take (i := 6) (v := ?_) (at_drop rfl) (by kernel_rfl) (by kernel_rfl) (by kernel_rfl) (fun _ _ _ h => h) (Or.inl ⟨by rfl, ?_⟩) (by assumption) ?_
        rotate_left 1
        · (intro w hSw; (try dsimp only at hSw); go_simp; try (with_reducible rfl))
        try simp only [Act.put, List.setIfInBounds_toArray, List.set_cons_zero, List.set_cons_succ]
        refine wpAnyH_take (i := 7) (v := ?_) (at_drop rfl) (by kernel_rfl) (by kernel_rfl) (by kernel_rfl) (fun _ _ _ h => h) (Or.inl ⟨by rfl, ?_⟩) (by assumption) ?_
        rotate_left 1
        · (intro w hSw; (try dsimp only at hSw); go_simp; try (with_reducible rfl))
        try simp only [Act.put, List.setIfInBounds_toArray, List.set_cons_zero, List.set_cons_succ]
        refine wpAnyH_take (i := 8) (v := ?_) (at_drop rfl) (by kernel_rfl) (by kernel_rfl) (by kernel_rfl) (fun _ _ _ h => h) (Or.inl ⟨by rfl, ?_⟩) (by assumption) ?_
        rotate_left 1
        · (intro w hSw; (try dsimp only at hSw); go_simp; try (with_reducible rfl))
        try simp only [Act.put, List.setIfInBounds_toArray, List.set_cons_zero, List.set_cons_succ]
        refine wpAnyH_take (i := 9) (v := ?_) (at_drop rfl) (by kernel_rfl) (by kernel_rfl) (by kernel_rfl) (fun _ _ _ h => h) (Or.inl ⟨by rfl, ?_⟩) (by assumption) ?_
        rotate_left 1
        · (intro w hSw; (try dsimp only at hSw); go_simp; try (with_reducible rfl))
        try simp only [Act.put, List.setIfInBounds_toArray, List.set_cons_zero, List.set_cons_succ]
        refine wpAnyH_ready (rs := [10]) (by kernel_rfl) (by simp) ?_
        refine AllReadyH.cons (at_drop rfl) (fun K hK => ?_) AllReadyH.nil
        go_simp
        refine hK.out _ _ ?_ (fun hHeld' => ?_)
        · ((try dsimp only) <;> (first | go_keep | assumption))
        clear hK K hHeld
        have hHeld := hHeld'
        clear hHeld'
        try simp only [Act.put, List.setIfInBounds_toArray, List.set_cons_zero, List.set_cons_succ]
        refine wpAnyH_ready (rs := [11]) (by kernel_rfl) (by simp) ?_
        refine AllReadyH.cons (at_drop rfl) (fun K hK => ?_) AllReadyH.nil
        go_simp
        (go_at_call 66; refine (HF.out _ ((H.out.alloc _).drewN _) (by simp; omega)).mono ?_; intro e w' hx; obtain ⟨rfl, sv2, hv2, D2, H2, hfr, hc42⟩ := fw_true p p' Hp.out hx; have hbx := hfr.out.cells (box_new w _ _) (by decide) hng hnm 1 _ rfl; clear hx)
        go_wp2_with fail
        refine hK.out _ _ ?_ (fun hHeld' => ?_)
        · ((try dsimp only) <;> (first | go_keep | assumption))
        clear hK K hHeld
        have hHeld := hHeld'
        clear hHeld'
        try simp only [Act.put, List.setIfInBounds_toArray, List.set_cons_zero, List.set_cons_succ]
        refine wpAnyH_take (i := 12) (v := ?_) (at_drop rfl) (by kernel_rfl) (by kernel_rfl) (by kernel_rfl) (fun _ _ _ h => h) (Or.inl ⟨by rfl, ?_⟩) (by assumption) ?_
        rotate_left 1
        · (intro w hSw; (try dsimp only at hSw); go_simp; try (with_reducible rfl))
        try simp only [Act.put, List.setIfInBounds_toArray, List.set_cons_zero, List.set_cons_succ]
        refine wpAnyH_take (i := 13) (v := ?_) (at_drop rfl) (by kernel_rfl) (by kernel_rfl) (by kernel_rfl) (fun _ _ _ h => h) (Or.inl ⟨by rfl, ?_⟩) (by assumption) ?_
        rotate_left 1
        · (intro w hSw; (try dsimp only at hSw); go_simp; try (with_reducible rfl))
        try simp only [Act.put, List.setIfInBounds_toArray, List.set_cons_zero, List.set_cons_succ]
        refine wpAnyH_take (i := 14) (v := ?_) (at_drop rfl) (by kernel_rfl) (by kernel_rfl) (by kernel_rfl) (fun _ _ _ h => h) (Or.inl ⟨by rfl, ?_⟩) (by assumption) ?_
        rotate_left 1
        · (intro w hSw; (try dsimp only at hSw); go_simp; try (with_reducible rfl))
        try simp only [Act.put, List.setIfInBounds_toArray, List.set_cons_zero, List.set_cons_succ]
        refine wpAnyH_ready (rs := [15]) (by kernel_rfl) (by simp) ?_
        refine AllReadyH.cons (at_drop rfl) (fun K hK => ?_) AllReadyH.nil
        go_simp
        (go_at_call 63; refine (swap0_any H2.out _ (by omega) (by omega) hst (by have := hfr.out.size; simp at this ⊢; omega)).mono ?_; rintro e w'' ⟨rfl, hck, hfr2⟩; have hbx2 := (hfr.out.trans hfr2).cells (box_new w _ _) (by decide) hng hnm 1 _ rfl)
        go_wp2_with fail
        refine hK.out _ _ ?_ (fun hHeld' => ?_)
        · ((try dsimp only) <;> (first | go_keep | assumption))
        clear hK K hHeld
        have hHeld := hHeld'
        clear hHeld'
        try simp only [Act.put, List.setIfInBounds_toArray, List.set_cons_zero, List.set_cons_succ]
        refine wpAnyH_take (i := 16) (v := ?_) (at_drop rfl) (by kernel_rfl) (by kernel_rfl) (by kernel_rfl) (fun _ _ _ h => h) (Or.inl ⟨by rfl, ?_⟩) (by assumption) ?_
        rotate_left 1
        · (intro w hSw; (try dsimp only at hSw); go_simp; try (with_reducible rfl))
        try simp only [Act.put, List.setIfInBounds_toArray, List.set_cons_zero, List.set_cons_succ]
        refine wpAnyH_take (i := 17) (v := ?_) (at_drop rfl) (by kernel_rfl) (by kernel_rfl) (by kernel_rfl) (fun _ _ _ h => h) (Or.inl ⟨by rfl, ?_⟩) (by assumption) ?_
        rotate_left 1
        · (intro w hSw; (try dsimp only at hSw); go_simp; try (with_reducible rfl))
        try simp only [Act.put, List.setIfInBounds_toArray, List.set_cons_zero, List.set_cons_succ]
        refine wpAnyH_done (by kernel_rfl) ?_ _
      all_goals go_wp2
      all_goals go_ret
      all_goals exact out_some Hr.out (by simp) hck (((Fr.box ..).trans hfr.out).trans hfr2)
theorem ck_open (h : CkAt w base g m kind tv cv stk n st pend hs high) : ∃ sv hv D, Hid (CkInv w base g m kind tv cv stk sv hv n D st pend hs high) ∧ w.cell? ⟨g, 4, none⟩ = some sv := by
  obtain ⟨sv, hv, D, H⟩ := h
  exact ⟨sv, hv, D, Lib.hid H, H.cell.2.2.2.2.1⟩
theorem swapS_le {st : List Int} {k : Nat} {put : List Int} {N : Nat} (h : st.length ≤ N) (hk : put.length ≤ k) (hk2 : k ≤ st.length) : (swapS st k put).length ≤ N := by
  simp [swapS]
  omega
set_option maxHeartbeats 1000000 in
theorem conds_if (h : CkInv w base g m kind tv cv stk sv hv n D st pend hs high) (i a b : Int) (hbase : base ≤ w.heap.size) (hst : st.length ≤ 1000000)
    (A : Option Addr) (len cap : Nat) (hcv : cv = .slice A len cap) (hi : 0 ≤ i) (hlen : len ≤ 1000000) (hn : n ≤ 1000000)
    (p : Option Pend) (hp : p = forwardS len pend i a (swapS st 1 [])) (r : Option (List Int × Pend)) (hr : r = if (topS st 1 == 4) = true then p.map (fun p => (swapS st 1 [], p)) else none) :
    Calls Tryd.prog 46 #[.pointer (some ⟨g, 0, none⟩), .int .i64 i, .agg #[.int .u8 28, .int .i64 a, .int .i64 b]] w (StepOut base g m kind tv cv stk n hs high r w) := by
  have HT0 := tops h (.cells #[.int .u8 28, .int .i64 a, .int .i64 b] 23)
  have hc4 := h.cell.2.2.2.2.1
  have hg4 : g < w.heap.size := cell_lt hc4
  have hng : w.heap.size ≠ g := by have := h.lt; omega
  have hnm : w.heap.size ≠ m := by have := h.lt; omega
  have hF0 := fun (hl : 1 ≤ st.length) w' sv hv D h' hb' => forward_any (w := w') (sv := sv) (hv := hv) (n := n) (D := D) (pend := pend) (hs := hs) (high := high) (base := base) (g := g) (m := m) (kind := kind) (tv := tv) (cv := cv) (stk := stk) (st := swapS st 1 []) h' i a A len cap hcv hi hlen hn (swapS_le hst (by simp) hl) hb'
  rw [← hp] at hF0
  clear hp
  obtain ⟨t1, ht1⟩ : ∃ t1, t1 = topS st 1 := ⟨_, rfl⟩; obtain ⟨t2, ht2⟩ : ∃ t2, t2 = topS st 2 := ⟨_, rfl⟩; rw [← ht1, ← ht2] at HT0; have HT := Lib.hid HT0; have H := Lib.hid h; clear h HT0
  rw [← ht1] at hr
  cases hb : (t1 == 4)
  · rw [hb] at hr
    have Hr := Lib.hid hr
    have HF := Lib.hid hF0
    clear hr ht1 ht2 hF0
    (go_enter Tryd.func46, Tryd.ntmps46; go_wp2_with fail; refine (HT.out.1).mono ?_; rintro e w' ⟨rfl, q, rfl⟩; go_wp2_with fail; refine (HT.out.2 _).mono ?_; rintro e w' ⟨rfl, q', rfl⟩)
    go_wp2_with fail
    go_quiet (fail)
    go_wp2
    go_ret
    exact out_box2 H.out Hr.out (by simp)
  · have hl := top_eq ht1 hb (by decide)
    have HF := Lib.hid (hF0 hl)
    rw [hb] at hr
    clear ht1 ht2 hF0
    have h4 : t1 = 4 := beq_iff_eq.1 hb
    subst h4
    clear hb
    cases hp : p with
    | none =>
      rw [hp] at hr
      have Hp := Lib.hid hp
      have Hr := Lib.hid hr
      clear hr hp
      (go_enter Tryd.func46, Tryd.ntmps46; go_wp2_with fail; refine (HT.out.1).mono ?_; rintro e w' ⟨rfl, q, rfl⟩; go_wp2_with fail; refine (HT.out.2 _).mono ?_; rintro e w' ⟨rfl, q', rfl⟩)
      go_wp2_with fail
      refine wp_region_held_drew (S := (fun w' => w'.cell? ⟨w.heap.size, 1, none⟩ = some (.int .i64 a))) (by kernel_rfl) ?_ (fun hHeld => ?_)
      · ((try dsimp only) <;> (first | go_keep | assumption))
      refine wpAnyH_take (i := 0) (v := ?_) (at_drop rfl) (by kernel_rfl) (by kernel_rfl) (by kernel_rfl) (fun _ _ _ h => h) (Or.inl ⟨by rfl, ?_⟩) (by assumption) ?_
      rotate_left 1
      · (intro w hSw; (try dsimp only at hSw); go_simp; try (with_reducible rfl))
      try simp only [Act.put, List.setIfInBounds_toArray, List.set_cons_zero, List.set_cons_succ]
      refine wpAnyH_take (i := 1) (v := ?_) (at_drop rfl) (by kernel_rfl) (by kernel_rfl) (by kernel_rfl) (fun _ _ _ h => h) (Or.inl ⟨by rfl, ?_⟩) (by assumption) ?_
      rotate_left 1
      · (intro w hSw; (try dsimp only at hSw); go_simp; try (with_reducible rfl))
      try simp only [Act.put, List.setIfInBounds_toArray, List.set_cons_zero, List.set_cons_succ]
      refine wpAnyH_take (i := 2) (v := ?_) (at_drop rfl) (by kernel_rfl) (by kernel_rfl) (by kernel_rfl) (fun _ _ _ h => h) (Or.inl ⟨by rfl, ?_⟩) (by assumption) ?_
      rotate_left 1
      · (intro w hSw; (try dsimp only at hSw); go_simp; try (with_reducible rfl))
      try simp only [Act.put, List.setIfInBounds_toArray, List.set_cons_zero, List.set_cons_succ]
      refine wpAnyH_take (i := 3) (v := ?_) (at_drop rfl) (by kernel_rfl) (by kernel_rfl) (by kernel_rfl) (fun _ _ _ h => h) (Or.inl ⟨by rfl, ?_⟩) (by assumption) ?_
      rotate_left 1
      · (intro w hSw; (try dsimp only at hSw); go_simp; try (with_reducible rfl))
      try simp only [Act.put, List.setIfInBounds_toArray, List.set_cons_zero, List.set_cons_succ]
      refine wpAnyH_ready (rs := [4]) (by kernel_rfl) (by simp) ?_
      refine AllReadyH.cons (at_drop rfl) (fun K hK => ?_) AllReadyH.nil
      go_simp
      (go_at_call 63; refine (swap0_any ((H.out.alloc _).drewN _) _ (by omega) (by omega) hst (by simp; omega)).mono ?_; rintro e w'' ⟨rfl, hck, hfr2⟩; obtain ⟨sv2, hv2, D2, H2, hc42⟩ := ck_open hck; have hbx2 := hfr2.cells (box_new w _ _) (by decide) hng hnm 1 _ rfl)
      go_wp2_with fail
      refine hK.out _ _ ?_ (fun hHeld' => ?_)
      · ((try dsimp only) <;> (first | go_keep | assumption))
      clear hK K hHeld
      have hHeld := hHeld'
      clear hHeld'
      try simp only [Act.put, List.setIfInBounds_toArray, List.set_cons_zero, List.set_cons_succ]
      refine wpAnyH_take (i := 5) (v := ?_) (at_drop rfl) (by kernel_rfl) (by kernel_rfl) (by kernel_rfl) (fun _ _ _ h => h) (Or.inl ⟨by rfl, ?_⟩) (by assumption) ?_
      rotate_left 1
      · (intro w hSw; (try dsimp only at hSw); go_simp; try (with_reducible rfl))
      try simp only [Act.put, List.setIfInBounds_toArray, List.set_cons_zero, List.set_cons_succ]
      refine wpAnyH_take (i := 6) (v := ?_) (at_drop rfl) (by kernel_rfl) (by kernel_rfl) (by kernel_rfl) (fun _ _ _ h => h) (Or.inl ⟨by rfl, ?_⟩) (by assumption) ?_
      rotate_left 1
      · (intro w hSw; (try dsimp only at hSw); go_simp; try (with_reducible rfl))
      try simp only [Act.put, List.setIfInBounds_toArray, List.set_cons_zero, List.set_cons_succ]
      refine wpAnyH_take (i := 7) (v := ?_) (at_drop rfl) (by kernel_rfl) (by kernel_rfl) (by kernel_rfl) (fun _ _ _ h => h) (Or.inl ⟨by rfl, ?_⟩) (by assumption) ?_
      rotate_left 1
      · (intro w hSw; (try dsimp only at hSw); go_simp; try (with_reducible rfl))
      try simp only [Act.put, List.setIfInBounds_toArray, List.set_cons_zero, List.set_cons_succ]
      refine wpAnyH_take (i := 8) (v := ?_) (at_drop rfl) (by kernel_rfl) (by kernel_rfl) (by kernel_rfl) (fun _ _ _ h => h) (Or.inl ⟨by rfl, ?_⟩) (by assumption) ?_
      rotate_left 1
      · (intro w hSw; (try dsimp only at hSw); go_simp; try (with_reducible rfl))
      try simp only [Act.put, List.setIfInBounds_toArray, List.set_cons_zero, List.set_cons_succ]
      refine wpAnyH_take (i := 9) (v := ?_) (at_drop rfl) (by kernel_rfl) (by kernel_rfl) (by kernel_rfl) (fun _ _ _ h => h) (Or.inl ⟨by rfl, ?_⟩) (by assumption) ?_
      rotate_left 1
      · (intro w hSw; (try dsimp only at hSw); go_simp; try (with_reducible rfl))
      try simp only [Act.put, List.setIfInBounds_toArray, List.set_cons_zero, List.set_cons_succ]
      refine wpAnyH_take (i := 10) (v := ?_) (at_drop rfl) (by kernel_rfl) (by kernel_rfl) (by kernel_rfl) (fun _ _ _ h => h) (Or.inl ⟨by rfl, ?_⟩) (by assumption) ?_
      rotate_left 1
      · (intro w hSw; (try dsimp only at hSw); go_simp; try (with_reducible rfl))
      try simp only [Act.put, List.setIfInBounds_toArray, List.set_cons_zero, List.set_cons_succ]
      refine wpAnyH_take (i := 11) (v := ?_) (at_drop rfl) (by kernel_rfl) (by kernel_rfl) (by kernel_rfl) (fun _ _ _ h => h) (Or.inl ⟨by rfl, ?_⟩) (by assumption) ?_
      rotate_left 1
      · (intro w hSw; (try dsimp only at hSw); go_simp; try (with_reducible rfl))
      try simp only [Act.put, List.setIfInBounds_toArray, List.set_cons_zero, List.set_cons_succ]
      refine wpAnyH_take (i := 12) (v := ?_) (at_drop rfl) (by kernel_rfl) (by kernel_rfl) (by kernel_rfl) (fun _ _ _ h => h) (Or.inl ⟨by rfl, ?_⟩) (by assumption) ?_
      rotate_left 1
      · (intro w hSw; (try dsimp only at hSw); go_simp; try (with_reducible rfl))
      try simp only [Act.put, List.setIfInBounds_toArray, List.set_cons_zero, List.set_cons_succ]
      refine wpAnyH_take (i := 13) (v := ?_) (at_drop rfl) (by kernel_rfl) (by kernel_rfl) (by kernel_rfl) (fun _ _ _ h => h) (Or.inl ⟨by rfl, ?_⟩) (by assumption) ?_
      rotate_left 1
      · (intro w hSw; (try dsimp only at hSw); go_simp; try (with_reducible rfl))
      try simp only [Act.put, List.setIfInBounds_toArray, List.set_cons_zero, List.set_cons_succ]
      refine wpAnyH_ready (rs := [14]) (by kernel_rfl) (by simp) ?_
      refine AllReadyH.cons (at_drop rfl) (fun K hK => ?_) AllReadyH.nil
      go_simp
      refine hK.out _ _ ?_ (fun hHeld' => ?_)
      · ((try dsimp only) <;> (first | go_keep | assumption))
      clear hK K hHeld
      have hHeld := hHeld'
      clear hHeld'
      try simp only [Act.put, List.setIfInBounds_toArray, List.set_cons_zero, List.set_cons_succ]
      refine wpAnyH_ready (rs := [15]) (by kernel_rfl) (by simp) ?_
      refine AllReadyH.cons (at_drop rfl) (fun K hK => ?_) AllReadyH.nil
      go_simp
      (go_at_call 66; refine (HF.out _ _ _ _ H2.out (by have := hfr2.size; simp at this ⊢; omega)).mono ?_; intro e w' hx; obtain ⟨rfl, hfr, hfc⟩ := fw_false p Hp.out hx; have hbx := (hfr2.trans hfr.out).cells (box_new w _ _) (by decide) hng hnm 1 _ rfl; clear hx)
      go_wp2_with fail
      refine hK.out _ _ ?_ (fun hHeld' => ?_)
      · ((try dsimp only) <;> (first | go_keep | assumption))
      clear hK K hHeld
      have hHeld := hHeld'
      clear hHeld'
      try simp only [Act.put, List.setIfInBounds_toArray, List.set_cons_zero, List.set_cons_succ]
      refine wpAnyH_take (i := 16) (v := ?_) (at_drop rfl) (by kernel_rfl) (by kernel_rfl) (by kernel_rfl) (fun _ _ _ h => h) (Or.inl ⟨by rfl, ?_⟩) (by assumption) ?_
      rotate_left 1
      · (intro w hSw; (try dsimp only at hSw); go_simp; try (with_reducible rfl))
      try simp only [Act.put, List.setIfInBounds_toArray, List.set_cons_zero, List.set_cons_succ]
      refine wpAnyH_take (i := 17) (v := ?_) (at_drop rfl) (by kernel_rfl) (by kernel_rfl) (by kernel_rfl) (fun _ _ _ h => h) (Or.inl ⟨by rfl, ?_⟩) (by assumption) ?_
      rotate_left 1
      · (intro w hSw; (try dsimp only at hSw); go_simp; try (with_reducible rfl))
      try simp only [Act.put, List.setIfInBounds_toArray, List.set_cons_zero, List.set_cons_succ]
      refine wpAnyH_done (by kernel_rfl) ?_ _
      all_goals go_wp2
      all_goals go_ret
      all_goals exact out_none Hr.out (by simp) (((Fr.box ..).trans hfr2).trans hfr.out) hfc.out
    | some p' =>
      rw [hp] at hr
      have Hp := Lib.hid hp
      have Hr := Lib.hid hr
      clear hr hp
      (go_enter Tryd.func46, Tryd.ntmps46; go_wp2_with fail; refine (HT.out.1).mono ?_; rintro e w' ⟨rfl, q, rfl⟩; go_wp2_with fail; refine (HT.out.2 _).mono ?_; rintro e w' ⟨rfl, q', rfl⟩)
      go_wp2_with fail
      refine wp_region_held_drew (S := (fun w' => w'.cell? ⟨w.heap.size, 1, none⟩ = some (.int .i64 a))) (by kernel_rfl) ?_ (fun hHeld => ?_)
      · ((try dsimp only) <;> (first | go_keep | assumption))
      refine wpAnyH_take (i := 0) (v := ?_) (at_drop rfl) (by kernel_rfl) (by kernel_rfl) (by kernel_rfl) (fun _ _ _ h => h) (Or.inl ⟨by rfl, ?_⟩) (by assumption) ?_
      rotate_left 1
      · (intro w hSw; (try dsimp only at hSw); go_simp; try (with_reducible rfl))
      try simp only [Act.put, List.setIfInBounds_toArray, List.set_cons_zero, List.set_cons_succ]
      refine wpAnyH_take (i := 1) (v := ?_) (at_drop rfl) (by kernel_rfl) (by kernel_rfl) (by kernel_rfl) (fun _ _ _ h => h) (Or.inl ⟨by rfl, ?_⟩) (by assumption) ?_
      rotate_left 1
      · (intro w hSw; (try dsimp only at hSw); go_simp; try (with_reducible rfl))
      try simp only [Act.put, List.setIfInBounds_toArray, List.set_cons_zero, List.set_cons_succ]
      refine wpAnyH_take (i := 2) (v := ?_) (at_drop rfl) (by kernel_rfl) (by kernel_rfl) (by kernel_rfl) (fun _ _ _ h => h) (Or.inl ⟨by rfl, ?_⟩) (by assumption) ?_
      rotate_left 1
      · (intro w hSw; (try dsimp only at hSw); go_simp; try (with_reducible rfl))
      try simp only [Act.put, List.setIfInBounds_toArray, List.set_cons_zero, List.set_cons_succ]
      refine wpAnyH_take (i := 3) (v := ?_) (at_drop rfl) (by kernel_rfl) (by kernel_rfl) (by kernel_rfl) (fun _ _ _ h => h) (Or.inl ⟨by rfl, ?_⟩) (by assumption) ?_
      rotate_left 1
      · (intro w hSw; (try dsimp only at hSw); go_simp; try (with_reducible rfl))
      try simp only [Act.put, List.setIfInBounds_toArray, List.set_cons_zero, List.set_cons_succ]
      refine wpAnyH_ready (rs := [4]) (by kernel_rfl) (by simp) ?_
      refine AllReadyH.cons (at_drop rfl) (fun K hK => ?_) AllReadyH.nil
      go_simp
      (go_at_call 63; refine (swap0_any ((H.out.alloc _).drewN _) _ (by omega) (by omega) hst (by simp; omega)).mono ?_; rintro e w'' ⟨rfl, hck, hfr2⟩; obtain ⟨sv2, hv2, D2, H2, hc42⟩ := ck_open hck; have hbx2 := hfr2.cells (box_new w _ _) (by decide) hng hnm 1 _ rfl)
      go_wp2_with fail
      refine hK.out _ _ ?_ (fun hHeld' => ?_)
      · ((try dsimp only) <;> (first | go_keep | assumption))
      clear hK K hHeld
      have hHeld := hHeld'
      clear hHeld'
      try simp only [Act.put, List.setIfInBounds_toArray, List.set_cons_zero, List.set_cons_succ]
      refine wpAnyH_take (i := 5) (v := ?_) (at_drop rfl) (by kernel_rfl) (by kernel_rfl) (by kernel_rfl) (fun _ _ _ h => h) (Or.inl ⟨by rfl, ?_⟩) (by assumption) ?_
      rotate_left 1
      · (intro w hSw; (try dsimp only at hSw); go_simp; try (with_reducible rfl))
      try simp only [Act.put, List.setIfInBounds_toArray, List.set_cons_zero, List.set_cons_succ]
      refine wpAnyH_take (i := 6) (v := ?_) (at_drop rfl) (by kernel_rfl) (by kernel_rfl) (by kernel_rfl) (fun _ _ _ h => h) (Or.inl ⟨by rfl, ?_⟩) (by assumption) ?_
      rotate_left 1
      · (intro w hSw; (try dsimp only at hSw); go_simp; try (with_reducible rfl))
      try simp only [Act.put, List.setIfInBounds_toArray, List.set_cons_zero, List.set_cons_succ]
      refine wpAnyH_take (i := 7) (v := ?_) (at_drop rfl) (by kernel_rfl) (by kernel_rfl) (by kernel_rfl) (fun _ _ _ h => h) (Or.inl ⟨by rfl, ?_⟩) (by assumption) ?_
      rotate_left 1
      · (intro w hSw; (try dsimp only at hSw); go_simp; try (with_reducible rfl))
      try simp only [Act.put, List.setIfInBounds_toArray, List.set_cons_zero, List.set_cons_succ]
      refine wpAnyH_take (i := 8) (v := ?_) (at_drop rfl) (by kernel_rfl) (by kernel_rfl) (by kernel_rfl) (fun _ _ _ h => h) (Or.inl ⟨by rfl, ?_⟩) (by assumption) ?_
      rotate_left 1
      · (intro w hSw; (try dsimp only at hSw); go_simp; try (with_reducible rfl))
      try simp only [Act.put, List.setIfInBounds_toArray, List.set_cons_zero, List.set_cons_succ]
      refine wpAnyH_take (i := 9) (v := ?_) (at_drop rfl) (by kernel_rfl) (by kernel_rfl) (by kernel_rfl) (fun _ _ _ h => h) (Or.inl ⟨by rfl, ?_⟩) (by assumption) ?_
      rotate_left 1
      · (intro w hSw; (try dsimp only at hSw); go_simp; try (with_reducible rfl))
      try simp only [Act.put, List.setIfInBounds_toArray, List.set_cons_zero, List.set_cons_succ]
      refine wpAnyH_take (i := 10) (v := ?_) (at_drop rfl) (by kernel_rfl) (by kernel_rfl) (by kernel_rfl) (fun _ _ _ h => h) (Or.inl ⟨by rfl, ?_⟩) (by assumption) ?_
      rotate_left 1
      · (intro w hSw; (try dsimp only at hSw); go_simp; try (with_reducible rfl))
      try simp only [Act.put, List.setIfInBounds_toArray, List.set_cons_zero, List.set_cons_succ]
      refine wpAnyH_take (i := 11) (v := ?_) (at_drop rfl) (by kernel_rfl) (by kernel_rfl) (by kernel_rfl) (fun _ _ _ h => h) (Or.inl ⟨by rfl, ?_⟩) (by assumption) ?_
      rotate_left 1
      · (intro w hSw; (try dsimp only at hSw); go_simp; try (with_reducible rfl))
      try simp only [Act.put, List.setIfInBounds_toArray, List.set_cons_zero, List.set_cons_succ]
      refine wpAnyH_take (i := 12) (v := ?_) (at_drop rfl) (by kernel_rfl) (by kernel_rfl) (by kernel_rfl) (fun _ _ _ h => h) (Or.inl ⟨by rfl, ?_⟩) (by assumption) ?_
      rotate_left 1
      · (intro w hSw; (try dsimp only at hSw); go_simp; try (with_reducible rfl))
      try simp only [Act.put, List.setIfInBounds_toArray, List.set_cons_zero, List.set_cons_succ]
      refine wpAnyH_take (i := 13) (v := ?_) (at_drop rfl) (by kernel_rfl) (by kernel_rfl) (by kernel_rfl) (fun _ _ _ h => h) (Or.inl ⟨by rfl, ?_⟩) (by assumption) ?_
      rotate_left 1
      · (intro w hSw; (try dsimp only at hSw); go_simp; try (with_reducible rfl))
      try simp only [Act.put, List.setIfInBounds_toArray, List.set_cons_zero, List.set_cons_succ]
      refine wpAnyH_ready (rs := [14]) (by kernel_rfl) (by simp) ?_
      refine AllReadyH.cons (at_drop rfl) (fun K hK => ?_) AllReadyH.nil
      go_simp
      refine hK.out _ _ ?_ (fun hHeld' => ?_)
      · ((try dsimp only) <;> (first | go_keep | assumption))
      clear hK K hHeld
      have hHeld := hHeld'
      clear hHeld'
      try simp only [Act.put, List.setIfInBounds_toArray, List.set_cons_zero, List.set_cons_succ]
      refine wpAnyH_ready (rs := [15]) (by kernel_rfl) (by simp) ?_
      refine AllReadyH.cons (at_drop rfl) (fun K hK => ?_) AllReadyH.nil
      go_simp
      (go_at_call 66; refine (HF.out _ _ _ _ H2.out (by have := hfr2.size; simp at this ⊢; omega)).mono ?_; intro e w' hx; obtain ⟨rfl, sv3, hv3, D3, H3, hfr, hc43⟩ := fw_true p p' Hp.out hx; have hbx := (hfr2.trans hfr.out).cells (box_new w _ _) (by decide) hng hnm 1 _ rfl; clear hx)
      go_wp2_with fail
      refine hK.out _ _ ?_ (fun hHeld' => ?_)
      · ((try dsimp only) <;> (first | go_keep | assumption))
      clear hK K hHeld
      have hHeld := hHeld'
      clear hHeld'
      try simp only [Act.put, List.setIfInBounds_toArray, List.set_cons_zero, List.set_cons_succ]
      refine wpAnyH_take (i := 16) (v := ?_) (at_drop rfl) (by kernel_rfl) (by kernel_rfl) (by kernel_rfl) (fun _ _ _ h => h) (Or.inl ⟨by rfl, ?_⟩) (by assumption) ?_
      rotate_left 1
      · (intro w hSw; (try dsimp only at hSw); go_simp; try (with_reducible rfl))
      try simp only [Act.put, List.setIfInBounds_toArray, List.set_cons_zero, List.set_cons_succ]
      refine wpAnyH_take (i := 17) (v := ?_) (at_drop rfl) (by kernel_rfl) (by kernel_rfl) (by kernel_rfl) (fun _ _ _ h => h) (Or.inl ⟨by rfl, ?_⟩) (by assumption) ?_
      rotate_left 1
      · (intro w hSw; (try dsimp only at hSw); go_simp; try (with_reducible rfl))
      try simp only [Act.put, List.setIfInBounds_toArray, List.set_cons_zero, List.set_cons_succ]
      refine wpAnyH_done (by kernel_rfl) ?_ _
      all_goals go_wp2
      all_goals go_ret
      all_goals exact out_some Hr.out (by simp) ⟨_, _, _, H3.out⟩ (((Fr.box ..).trans hfr2).trans hfr.out)
theorem forwardS_some {len : Nat} {pend p : Pend} {i a : Int} {st : List Int} (h : forwardS len pend i a st = some p) : i < a ∧ a < (len : Int) := by
  unfold forwardS at h
  split at h
  · cases h
  · omega
set_option maxHeartbeats 1000000 in
theorem conds_guard (h : CkInv w base g m kind tv cv stk sv hv n D st pend hs high) (i a b : Int) (hbase : base ≤ w.heap.size) (hst : st.length ≤ 1000000)
    (A : Option Addr) (len cap : Nat) (hcv : cv = .slice A len cap) (hi : 0 ≤ i) (hlen : len ≤ 1000000) (hn : n ≤ 1000000)
    (p : Option Pend) (hp : p = forwardS len pend i a st) (r : Option (List Int × Pend)) (hr : r = p.map (fun p => (swapS st 0 [8 + a], p))) :
    Calls Tryd.prog 46 #[.pointer (some ⟨g, 0, none⟩), .int .i64 i, .agg #[.int .u8 29, .int .i64 a, .int .i64 b]] w (StepOut base g m kind tv cv stk n hs high r w) := by
  have HT0 := tops h (.cells #[.int .u8 29, .int .i64 a, .int .i64 b] 23)
  have hc4 := h.cell.2.2.2.2.1
  have hg4 : g < w.heap.size := cell_lt hc4
  have hng : w.heap.size ≠ g := by have := h.lt; omega
  have hnm : w.heap.size ≠ m := by have := h.lt; omega
  have HF := Lib.hid (fun w' h' hb' => forward_any (w := w') (sv := sv) (hv := hv) (n := n) (D := D) (pend := pend) (hs := hs) (high := high) (base := base) (g := g) (m := m) (kind := kind) (tv := tv) (cv := cv) (stk := stk) (st := st) h' i a A len cap hcv hi hlen hn hst hb')
  rw [← hp] at HF
  cases hpp : p with
  | none =>
    rw [hpp] at hr
    clear hp
    obtain ⟨t1, ht1⟩ : ∃ t1, t1 = topS st 1 := ⟨_, rfl⟩; obtain ⟨t2, ht2⟩ : ∃ t2, t2 = topS st 2 := ⟨_, rfl⟩; rw [← ht1, ← ht2] at HT0; have HT := Lib.hid HT0; have H := Lib.hid h; clear h HT0
    clear ht1 ht2
    have Hp := Lib.hid hpp
    have Hr := Lib.hid hr
    clear hr hpp
    (go_enter Tryd.func46, Tryd.ntmps46; go_wp2_with fail; refine (HT.out.1).mono ?_; rintro e w' ⟨rfl, q, rfl⟩; go_wp2_with fail; refine (HT.out.2 _).mono ?_; rintro e w' ⟨rfl, q', rfl⟩)
    go_wp2_with fail
    refine wp_region_held_drew (S := (fun w' => w'.cell? ⟨w.heap.size, 1, none⟩ = some (.int .i64 a))) (by kernel_rfl) ?_ (fun hHeld => ?_)
    · ((try dsimp only) <;> (first | go_keep | assumption))
    refine wpAnyH_take (i := 0) (v := ?_) (at_drop rfl) (by kernel_rfl) (by kernel_rfl) (by kernel_rfl) (fun _ _ _ h => h) (Or.inl ⟨by rfl, ?_⟩) (by assumption) ?_
    rotate_left 1
    · (intro w hSw; (try dsimp only at hSw); go_simp; try (with_reducible rfl))
    try simp only [Act.put, List.setIfInBounds_toArray, List.set_cons_zero, List.set_cons_succ]
    refine wpAnyH_take (i := 1) (v := ?_) (at_drop rfl) (by kernel_rfl) (by kernel_rfl) (by kernel_rfl) (fun _ _ _ h => h) (Or.inl ⟨by rfl, ?_⟩) (by assumption) ?_
    rotate_left 1
    · (intro w hSw; (try dsimp only at hSw); go_simp; try (with_reducible rfl))
    try simp only [Act.put, List.setIfInBounds_toArray, List.set_cons_zero, List.set_cons_succ]
    refine wpAnyH_take (i := 2) (v := ?_) (at_drop rfl) (by kernel_rfl) (by kernel_rfl) (by kernel_rfl) (fun _ _ _ h => h) (Or.inl ⟨by rfl, ?_⟩) (by assumption) ?_
    rotate_left 1
    · (intro w hSw; (try dsimp only at hSw); go_simp; try (with_reducible rfl))
    try simp only [Act.put, List.setIfInBounds_toArray, List.set_cons_zero, List.set_cons_succ]
    refine wpAnyH_take (i := 3) (v := ?_) (at_drop rfl) (by kernel_rfl) (by kernel_rfl) (by kernel_rfl) (fun _ _ _ h => h) (Or.inl ⟨by rfl, ?_⟩) (by assumption) ?_
    rotate_left 1
    · (intro w hSw; (try dsimp only at hSw); go_simp; try (with_reducible rfl))
    try simp only [Act.put, List.setIfInBounds_toArray, List.set_cons_zero, List.set_cons_succ]
    refine wpAnyH_take (i := 4) (v := ?_) (at_drop rfl) (by kernel_rfl) (by kernel_rfl) (by kernel_rfl) (fun _ _ _ h => h) (Or.inl ⟨by rfl, ?_⟩) (by assumption) ?_
    rotate_left 1
    · (intro w hSw; (try dsimp only at hSw); go_simp; try (with_reducible rfl))
    try simp only [Act.put, List.setIfInBounds_toArray, List.set_cons_zero, List.set_cons_succ]
    refine wpAnyH_take (i := 5) (v := ?_) (at_drop rfl) (by kernel_rfl) (by kernel_rfl) (by kernel_rfl) (fun _ _ _ h => h) (Or.inl ⟨by rfl, ?_⟩) (by assumption) ?_
    rotate_left 1
    · (intro w hSw; (try dsimp only at hSw); go_simp; try (with_reducible rfl))
    try simp only [Act.put, List.setIfInBounds_toArray, List.set_cons_zero, List.set_cons_succ]
    refine wpAnyH_take (i := 6) (v := ?_) (at_drop rfl) (by kernel_rfl) (by kernel_rfl) (by kernel_rfl) (fun _ _ _ h => h) (Or.inl ⟨by rfl, ?_⟩) (by assumption) ?_
    rotate_left 1
    · (intro w hSw; (try dsimp only at hSw); go_simp; try (with_reducible rfl))
    try simp only [Act.put, List.setIfInBounds_toArray, List.set_cons_zero, List.set_cons_succ]
    refine wpAnyH_ready (rs := [7]) (by kernel_rfl) (by simp) ?_
    refine AllReadyH.cons (at_drop rfl) (fun K hK => ?_) AllReadyH.nil
    go_simp
    refine hK.out _ _ ?_ (fun hHeld' => ?_)
    · ((try dsimp only) <;> (first | go_keep | assumption))
    clear hK K hHeld
    have hHeld := hHeld'
    clear hHeld'
    try simp only [Act.put, List.setIfInBounds_toArray, List.set_cons_zero, List.set_cons_succ]
    refine wpAnyH_ready (rs := [8]) (by kernel_rfl) (by simp) ?_
    refine AllReadyH.cons (at_drop rfl) (fun K hK => ?_) AllReadyH.nil
    go_simp
    (go_at_call 66; refine (HF.out _ ((H.out.alloc _).drewN _) (by simp; omega)).mono ?_; intro e w' hx; obtain ⟨rfl, hfr, hfc⟩ := fw_false p Hp.out hx; have hbx := hfr.out.cells (box_new w _ _) (by decide) hng hnm 1 _ rfl; clear hx)
    go_wp2_with fail
    refine hK.out _ _ ?_ (fun hHeld' => ?_)
    · ((try dsimp only) <;> (first | go_keep | assumption))
    clear hK K hHeld
    have hHeld := hHeld'
    clear hHeld'
    try simp only [Act.put, List.setIfInBounds_toArray, List.set_cons_zero, List.set_cons_succ]
    refine wpAnyH_take (i := 9) (v := ?_) (at_drop rfl) (by kernel_rfl) (by kernel_rfl) (by kernel_rfl) (fun _ _ _ h => h) (Or.inl ⟨by rfl, ?_⟩) (by assumption) ?_
    rotate_left 1
    · (intro w hSw; (try dsimp only at hSw); go_simp; try (with_reducible rfl))
    try simp only [Act.put, List.setIfInBounds_toArray, List.set_cons_zero, List.set_cons_succ]
    refine wpAnyH_take (i := 10) (v := undef) (at_drop rfl) (by kernel_rfl) (by kernel_rfl) (by kernel_rfl) (fun _ _ _ h => h) (Or.inr ⟨by rfl, rfl⟩) (by assumption) ?_
    try simp only [Act.put, List.setIfInBounds_toArray, List.set_cons_zero, List.set_cons_succ]
    refine wpAnyH_take (i := 11) (v := undef) (at_drop rfl) (by kernel_rfl) (by kernel_rfl) (by kernel_rfl) (fun _ _ _ h => h) (Or.inr ⟨by rfl, rfl⟩) (by assumption) ?_
    try simp only [Act.put, List.setIfInBounds_toArray, List.set_cons_zero, List.set_cons_succ]
    refine wpAnyH_take (i := 12) (v := undef) (at_drop rfl) (by kernel_rfl) (by kernel_rfl) (by kernel_rfl) (fun _ _ _ h => h) (Or.inr ⟨by rfl, rfl⟩) (by assumption) ?_
    try simp only [Act.put, List.setIfInBounds_toArray, List.set_cons_zero, List.set_cons_succ]
    refine wpAnyH_take (i := 13) (v := undef) (at_drop rfl) (by kernel_rfl) (by kernel_rfl) (by kernel_rfl) (fun _ _ _ h => h) (Or.inr ⟨by rfl, rfl⟩) (by assumption) ?_
    try simp only [Act.put, List.setIfInBounds_toArray, List.set_cons_zero, List.set_cons_succ]
    refine wpAnyH_take (i := 14) (v := undef) (at_drop rfl) (by kernel_rfl) (by kernel_rfl) (by kernel_rfl) (fun _ _ _ h => h) (Or.inr ⟨by rfl, rfl⟩) (by assumption) ?_
    try simp only [Act.put, List.setIfInBounds_toArray, List.set_cons_zero, List.set_cons_succ]
    refine wpAnyH_take (i := 15) (v := undef) (at_drop rfl) (by kernel_rfl) (by kernel_rfl) (by kernel_rfl) (fun _ _ _ h => h) (Or.inr ⟨by rfl, rfl⟩) (by assumption) ?_
    try simp only [Act.put, List.setIfInBounds_toArray, List.set_cons_zero, List.set_cons_succ]
    refine wpAnyH_take (i := 16) (v := ?_) (at_drop rfl) (by kernel_rfl) (by kernel_rfl) (by kernel_rfl) (fun _ _ _ h => h) (Or.inl ⟨by rfl, ?_⟩) (by assumption) ?_
    rotate_left 1
    · (intro w hSw; (try dsimp only at hSw); go_simp; try (with_reducible rfl))
    try simp only [Act.put, List.setIfInBounds_toArray, List.set_cons_zero, List.set_cons_succ]
    refine wpAnyH_take (i := 17) (v := ?_) (at_drop rfl) (by kernel_rfl) (by kernel_rfl) (by kernel_rfl) (fun _ _ _ h => h) (Or.inl ⟨by rfl, ?_⟩) (by assumption) ?_
    rotate_left 1
    · (intro w hSw; (try dsimp only at hSw); go_simp; try (with_reducible rfl))
    try simp only [Act.put, List.setIfInBounds_toArray, List.set_cons_zero, List.set_cons_succ]
    refine wpAnyH_done (by kernel_rfl) ?_ _
    all_goals go_wp2
    all_goals go_ret
    all_goals exact out_none Hr.out (by simp) ((Fr.box ..).trans hfr.out) hfc.out
  | some p' =>
    have ha := forwardS_some (hp.symm.trans hpp)
    have ha0 : IntKind.i64.wrap (8 + a) = 8 + a := IntWalk.i64_in _ (by omega)
    rw [hpp] at hr
    clear hp
    obtain ⟨t1, ht1⟩ : ∃ t1, t1 = topS st 1 := ⟨_, rfl⟩; obtain ⟨t2, ht2⟩ : ∃ t2, t2 = topS st 2 := ⟨_, rfl⟩; rw [← ht1, ← ht2] at HT0; have HT := Lib.hid HT0; have H := Lib.hid h; clear h HT0
    clear ht1 ht2
    have Hp := Lib.hid hpp
    have Hr := Lib.hid hr
    clear hr hpp
    (go_enter Tryd.func46, Tryd.ntmps46; go_wp2_with fail; refine (HT.out.1).mono ?_; rintro e w' ⟨rfl, q, rfl⟩; go_wp2_with fail; refine (HT.out.2 _).mono ?_; rintro e w' ⟨rfl, q', rfl⟩)
    go_wp2_with fail
    refine wp_region_held_drew (S := (fun w' => w'.cell? ⟨w.heap.size, 1, none⟩ = some (.int .i64 a))) (by kernel_rfl) ?_ (fun hHeld => ?_)
    · ((try dsimp only) <;> (first | go_keep | assumption))
    refine wpAnyH_take (i := 0) (v := ?_) (at_drop rfl) (by kernel_rfl) (by kernel_rfl) (by kernel_rfl) (fun _ _ _ h => h) (Or.inl ⟨by rfl, ?_⟩) (by assumption) ?_
    rotate_left 1
    · (intro w hSw; (try dsimp only at hSw); go_simp; try (with_reducible rfl))
    try simp only [Act.put, List.setIfInBounds_toArray, List.set_cons_zero, List.set_cons_succ]
    refine wpAnyH_take (i := 1) (v := ?_) (at_drop rfl) (by kernel_rfl) (by kernel_rfl) (by kernel_rfl) (fun _ _ _ h => h) (Or.inl ⟨by rfl, ?_⟩) (by assumption) ?_
    rotate_left 1
    · (intro w hSw; (try dsimp only at hSw); go_simp; try (with_reducible rfl))
    try simp only [Act.put, List.setIfInBounds_toArray, List.set_cons_zero, List.set_cons_succ]
    refine wpAnyH_take (i := 2) (v := ?_) (at_drop rfl) (by kernel_rfl) (by kernel_rfl) (by kernel_rfl) (fun _ _ _ h => h) (Or.inl ⟨by rfl, ?_⟩) (by assumption) ?_
    rotate_left 1
    · (intro w hSw; (try dsimp only at hSw); go_simp; try (with_reducible rfl))
    try simp only [Act.put, List.setIfInBounds_toArray, List.set_cons_zero, List.set_cons_succ]
    refine wpAnyH_take (i := 3) (v := ?_) (at_drop rfl) (by kernel_rfl) (by kernel_rfl) (by kernel_rfl) (fun _ _ _ h => h) (Or.inl ⟨by rfl, ?_⟩) (by assumption) ?_
    rotate_left 1
    · (intro w hSw; (try dsimp only at hSw); go_simp; try (with_reducible rfl))
    try simp only [Act.put, List.setIfInBounds_toArray, List.set_cons_zero, List.set_cons_succ]
    refine wpAnyH_take (i := 4) (v := ?_) (at_drop rfl) (by kernel_rfl) (by kernel_rfl) (by kernel_rfl) (fun _ _ _ h => h) (Or.inl ⟨by rfl, ?_⟩) (by assumption) ?_
    rotate_left 1
    · (intro w hSw; (try dsimp only at hSw); go_simp; try (with_reducible rfl))
    try simp only [Act.put, List.setIfInBounds_toArray, List.set_cons_zero, List.set_cons_succ]
    refine wpAnyH_take (i := 5) (v := ?_) (at_drop rfl) (by kernel_rfl) (by kernel_rfl) (by kernel_rfl) (fun _ _ _ h => h) (Or.inl ⟨by rfl, ?_⟩) (by assumption) ?_
    rotate_left 1
    · (intro w hSw; (try dsimp only at hSw); go_simp; try (with_reducible rfl))
    try simp only [Act.put, List.setIfInBounds_toArray, List.set_cons_zero, List.set_cons_succ]
    refine wpAnyH_take (i := 6) (v := ?_) (at_drop rfl) (by kernel_rfl) (by kernel_rfl) (by kernel_rfl) (fun _ _ _ h => h) (Or.inl ⟨by rfl, ?_⟩) (by assumption) ?_
    rotate_left 1
    · (intro w hSw; (try dsimp only at hSw); go_simp; try (with_reducible rfl))
    try simp only [Act.put, List.setIfInBounds_toArray, List.set_cons_zero, List.set_cons_succ]
    refine wpAnyH_ready (rs := [7]) (by kernel_rfl) (by simp) ?_
    refine AllReadyH.cons (at_drop rfl) (fun K hK => ?_) AllReadyH.nil
    go_simp
    refine hK.out _ _ ?_ (fun hHeld' => ?_)
    · ((try dsimp only) <;> (first | go_keep | assumption))
    clear hK K hHeld
    have hHeld := hHeld'
    clear hHeld'
    try simp only [Act.put, List.setIfInBounds_toArray, List.set_cons_zero, List.set_cons_succ]
    refine wpAnyH_ready (rs := [8]) (by kernel_rfl) (by simp) ?_
    refine AllReadyH.cons (at_drop rfl) (fun K hK => ?_) AllReadyH.nil
    go_simp
    (go_at_call 66; refine (HF.out _ ((H.out.alloc _).drewN _) (by simp; omega)).mono ?_; intro e w' hx; obtain ⟨rfl, sv2, hv2, D2, H2, hfr, hc42⟩ := fw_true p p' Hp.out hx; have hbx := hfr.out.cells (box_new w _ _) (by decide) hng hnm 1 _ rfl; clear hx)
    go_wp2_with fail
    refine hK.out _ _ ?_ (fun hHeld' => ?_)
    · ((try dsimp only) <;> (first | go_keep | assumption))
    clear hK K hHeld
    have hHeld := hHeld'
    clear hHeld'
    try simp only [Act.put, List.setIfInBounds_toArray, List.set_cons_zero, List.set_cons_succ]
    refine wpAnyH_take (i := 9) (v := ?_) (at_drop rfl) (by kernel_rfl) (by kernel_rfl) (by kernel_rfl) (fun _ _ _ h => h) (Or.inl ⟨by rfl, ?_⟩) (by assumption) ?_
    rotate_left 1
    · (intro w hSw; (try dsimp only at hSw); go_simp; try (with_reducible rfl))
    try simp only [Act.put, List.setIfInBounds_toArray, List.set_cons_zero, List.set_cons_succ]
    refine wpAnyH_take (i := 10) (v := ?_) (at_drop rfl) (by kernel_rfl) (by kernel_rfl) (by kernel_rfl) (fun _ _ _ h => h) (Or.inl ⟨by rfl, ?_⟩) (by assumption) ?_
    rotate_left 1
    · (intro w hSw; (try dsimp only at hSw); go_simp; try (with_reducible rfl))
    try simp only [Act.put, List.setIfInBounds_toArray, List.set_cons_zero, List.set_cons_succ]
    refine wpAnyH_take (i := 11) (v := ?_) (at_drop rfl) (by kernel_rfl) (by kernel_rfl) (by kernel_rfl) (fun _ _ _ h => h) (Or.inl ⟨by rfl, ?_⟩) (by assumption) ?_
    rotate_left 1
    · (intro w hSw; (try dsimp only at hSw); go_simp; try (with_reducible rfl))
    try simp only [Act.put, List.setIfInBounds_toArray, List.set_cons_zero, List.set_cons_succ]
    refine wpAnyH_take (i := 12) (v := ?_) (at_drop rfl) (by kernel_rfl) (by kernel_rfl) (by kernel_rfl) (fun _ _ _ h => h) (Or.inl ⟨by rfl, ?_⟩) (by assumption) ?_
    rotate_left 1
    · (intro w hSw; (try dsimp only at hSw); go_simp; try (with_reducible rfl))
    try simp only [Act.put, List.setIfInBounds_toArray, List.set_cons_zero, List.set_cons_succ]
    refine wpAnyH_take (i := 13) (v := ?_) (at_drop rfl) (by kernel_rfl) (by kernel_rfl) (by kernel_rfl) (fun _ _ _ h => h) (Or.inl ⟨by rfl, ?_⟩) (by assumption) ?_
    rotate_left 1
    · (intro w hSw; (try dsimp only at hSw); go_simp; try (with_reducible rfl))
    try simp only [Act.put, List.setIfInBounds_toArray, List.set_cons_zero, List.set_cons_succ]
    refine wpAnyH_ready (rs := [14]) (by kernel_rfl) (by simp) ?_
    refine AllReadyH.cons (at_drop rfl) (fun K hK => ?_) AllReadyH.nil
    go_simp
    refine hK.out _ _ ?_ (fun hHeld' => ?_)
    · ((try dsimp only) <;> (first | go_keep | assumption))
    clear hK K hHeld
    have hHeld := hHeld'
    clear hHeld'
    try simp only [Act.put, List.setIfInBounds_toArray, List.set_cons_zero, List.set_cons_succ]
    refine wpAnyH_ready (rs := [15]) (by kernel_rfl) (by simp) ?_
    refine AllReadyH.cons (at_drop rfl) (fun K hK => ?_) AllReadyH.nil
    go_simp
    (go_at_call 63; refine (swap1_any (H2.out.alloc _) _ (by omega) (by omega) (8 + a) _ (by simp) hst (by have := hfr.out.size; simp at this ⊢; omega)).mono ?_; rintro e w'' ⟨rfl, hck, hfr2⟩; have hbx2 := ((hfr.out.trans (Fr.alloc ..)).trans hfr2).cells (box_new w _ _) (by decide) hng hnm 1 _ rfl)
    go_wp2_with fail
    refine hK.out _ _ ?_ (fun hHeld' => ?_)
    · ((try dsimp only) <;> (first | go_keep | assumption))
    clear hK K hHeld
    have hHeld := hHeld'
    clear hHeld'
    try simp only [Act.put, List.setIfInBounds_toArray, List.set_cons_zero, List.set_cons_succ]
    refine wpAnyH_take (i := 16) (v := ?_) (at_drop rfl) (by kernel_rfl) (by kernel_rfl) (by kernel_rfl) (fun _ _ _ h => h) (Or.inl ⟨by rfl, ?_⟩) (by assumption) ?_
    rotate_left 1
    · (intro w hSw; (try dsimp only at hSw); go_simp; try (with_reducible rfl))
    try simp only [Act.put, List.setIfInBounds_toArray, List.set_cons_zero, List.set_cons_succ]
    refine wpAnyH_take (i := 17) (v := ?_) (at_drop rfl) (by kernel_rfl) (by kernel_rfl) (by kernel_rfl) (fun _ _ _ h => h) (Or.inl ⟨by rfl, ?_⟩) (by assumption) ?_
    rotate_left 1
    · (intro w hSw; (try dsimp only at hSw); go_simp; try (with_reducible rfl))
    try simp only [Act.put, List.setIfInBounds_toArray, List.set_cons_zero, List.set_cons_succ]
    refine wpAnyH_done (by kernel_rfl) ?_ _
    all_goals go_wp2
    all_goals go_ret
    all_goals exact out_some Hr.out (by simp) hck ((((Fr.box ..).trans hfr.out).trans (Fr.alloc ..)).trans hfr2)
end
end Go.Proofs.YtkjhdgomkdemkaaDoor
