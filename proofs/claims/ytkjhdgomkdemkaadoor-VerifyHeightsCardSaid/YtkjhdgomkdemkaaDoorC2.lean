import Derived.Test.YtkjhdgomkdemkaaDoorC1
/-! May an instruction not be written? -/
namespace Go.Proofs.YtkjhdgomkdemkaaDoor
open Go.RowKit
set_option linter.unusedVariables false
set_option linter.unusedSimpArgs false
set_option maxRecDepth 100000
theorem shape_lit (op : Int) : (shapeS op = 0 ∧ hasAB op = false ∧ (op == 37) = false) ∨ (shapeS op = 1 ∧ hasAB op = true ∧ (op == 37) = false) ∨ (shapeS op = 3 ∧ hasAB op = false ∧ (op == 37) = true) := by
  unfold shapeS
  cases h : hasAB op
  · cases h2 : (op == 37)
    · exact .inl ⟨by simp, rfl, rfl⟩
    · exact .inr (.inr ⟨by simp, rfl, rfl⟩)
  · refine .inr (.inl ⟨by simp, rfl, ?_⟩)
    rw [beq_eq_false_iff_ne]
    intro e
    subst e
    exact absurd h (by decide)
set_option maxHeartbeats 1500000 in
theorem wrong_any (x : Instr) (w : World) : Calls Tryd.prog 24 #[.agg #[.int .u8 x.op, .int .i64 x.a, .int .i64 x.b]] w fun e w' => e = .returned (.bool (wrongB x)) ∧ Below w.heap.size w w' := by
  obtain ⟨op, a, b⟩ := x
  obtain ⟨r, hr⟩ : ∃ r, r = wrongB ⟨op, a, b⟩ := ⟨_, rfl⟩
  rw [← hr]
  unfold wrongB at hr
  simp only at hr
  have hB : ∀ q, Below w.heap.size w ((w.alloc (.cells #[.int .u8 op, .int .i64 a, .int .i64 b] 23)).drewN q) := fun q => by
    have := (Below.refl w.heap.size w).alloc (Nat.le_refl _) (.cells #[.int .u8 op, .int .i64 a, .int .i64 b] 23)
    exact ⟨this.os, this.tape, this.output, this.size, this.block⟩
  have HBw := Lib.hid hB
  clear hB
  by_cases h1 : op < 1
  · have Hr := Lib.hid (hr.trans (by rw [decide_eq_true h1, Bool.true_or, Bool.true_or, Bool.true_or]))
    clear hr
    go_enter Tryd.func24, Tryd.ntmps24
    go_wp2_with fail
    go_quiet (fail)
    go_wp2
    go_ret
    exact ⟨ret_bool Hr.out.symm, HBw.out _⟩
  · have h1' : (1 : Int) ≤ op := by omega
    have hd1 : decide (op < 1) = false := decide_eq_false h1
    by_cases h2 : 38 < op
    · have Hr := Lib.hid (hr.trans (by rw [decide_eq_true h2, Bool.or_true, Bool.true_or, Bool.true_or]))
      clear hr
      go_enter Tryd.func24, Tryd.ntmps24
      go_wp2_with fail
      go_quiet (fail)
      go_wp2
      go_ret
      exact ⟨ret_bool Hr.out.symm, HBw.out _⟩
    · have h2' : op ≤ 38 := by omega
      have hd2 : decide (38 < op) = false := decide_eq_false h2
      rw [hd1, hd2, Bool.false_or, Bool.false_or] at hr
      clear h1 h2 h1' h2'
      have HO := Lib.hid (of_any op)
      rcases shape_lit op with ⟨hs, hab, h37⟩ | ⟨hs, hab, h37⟩ | ⟨hs, hab, h37⟩
      all_goals
        rw [hs] at HO
        rw [hab, h37] at hr
        simp only [Bool.false_or, Bool.or_false, Bool.or_true, Bool.true_or] at hr
        clear hs hab h37
      · obtain ⟨q1, hq1⟩ : ∃ q1, q1 = rightB a false := ⟨_, rfl⟩
        obtain ⟨q2, hq2⟩ : ∃ q2, q2 = rightB b false := ⟨_, rfl⟩
        rw [← hq1, ← hq2] at hr
        have HA := Lib.hid (right_any a false)
        have HB := Lib.hid (right_any b false)
        rw [← hq1] at HA
        rw [← hq2] at HB
        clear hq1 hq2
        cases q1 <;> cases q2
        all_goals
          have Hr := Lib.hid hr
          clear hr
          go_enter Tryd.func24, Tryd.ntmps24
          go_wp2_with fail
          go_quiet (first | (go_at_call 33; refine Calls.quiet_of_same ((HO.out _).mono fun _ _ h => ⟨h.1, h.2.symm⟩)) | (go_at_call_of 22 (Value.int IntKind.i64 a); refine Calls.quiet_of_same ((HA.out _).mono fun _ _ h => ⟨h.1, h.2.symm⟩)) | (go_at_call_of 22 (Value.int IntKind.i64 b); refine Calls.quiet_of_same ((HB.out _).mono fun _ _ h => ⟨h.1, h.2.symm⟩)))
          go_wp2
          go_ret
          exact ⟨ret_bool Hr.out.symm, HBw.out _⟩
      · obtain ⟨q1, hq1⟩ : ∃ q1, q1 = rightB a true := ⟨_, rfl⟩
        obtain ⟨q2, hq2⟩ : ∃ q2, q2 = rightB b false := ⟨_, rfl⟩
        rw [← hq1, ← hq2] at hr
        have HA := Lib.hid (right_any a true)
        have HB := Lib.hid (right_any b false)
        rw [← hq1] at HA
        rw [← hq2] at HB
        clear hq1 hq2
        cases q1 <;> cases q2
        all_goals
          have Hr := Lib.hid hr
          clear hr
          go_enter Tryd.func24, Tryd.ntmps24
          go_wp2_with fail
          go_quiet (first | (go_at_call 33; refine Calls.quiet_of_same ((HO.out _).mono fun _ _ h => ⟨h.1, h.2.symm⟩)) | (go_at_call_of 22 (Value.int IntKind.i64 a); refine Calls.quiet_of_same ((HA.out _).mono fun _ _ h => ⟨h.1, h.2.symm⟩)) | (go_at_call_of 22 (Value.int IntKind.i64 b); refine Calls.quiet_of_same ((HB.out _).mono fun _ _ h => ⟨h.1, h.2.symm⟩)))
          go_wp2
          go_ret
          exact ⟨ret_bool Hr.out.symm, HBw.out _⟩
      · obtain ⟨q1, hq1⟩ : ∃ q1, q1 = rightB a true := ⟨_, rfl⟩
        obtain ⟨q2, hq2⟩ : ∃ q2, q2 = rightB b true := ⟨_, rfl⟩
        rw [← hq1, ← hq2] at hr
        have HA := Lib.hid (right_any a true)
        have HB := Lib.hid (right_any b true)
        rw [← hq1] at HA
        rw [← hq2] at HB
        clear hq1 hq2
        cases q1 <;> cases q2
        all_goals
          have Hr := Lib.hid hr
          clear hr
          go_enter Tryd.func24, Tryd.ntmps24
          go_wp2_with fail
          go_quiet (first | (go_at_call 33; refine Calls.quiet_of_same ((HO.out _).mono fun _ _ h => ⟨h.1, h.2.symm⟩)) | (go_at_call_of 22 (Value.int IntKind.i64 a); refine Calls.quiet_of_same ((HA.out _).mono fun _ _ h => ⟨h.1, h.2.symm⟩)) | (go_at_call_of 22 (Value.int IntKind.i64 b); refine Calls.quiet_of_same ((HB.out _).mono fun _ _ h => ⟨h.1, h.2.symm⟩)))
          go_wp2
          go_ret
          exact ⟨ret_bool Hr.out.symm, HBw.out _⟩
end Go.Proofs.YtkjhdgomkdemkaaDoor
