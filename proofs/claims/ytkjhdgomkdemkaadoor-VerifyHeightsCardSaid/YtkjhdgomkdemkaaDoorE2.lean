import Derived.Test.YtkjhdgomkdemkaaDoorE1
import Derived.Test.YtkjhdgomkdemkaaDoorP2
import Derived.BigGuard
import Derived.BigCall
/-! The statement on heights: the walk. -/
namespace Go.Proofs.YtkjhdgomkdemkaaDoor
open Go.RowKit Go.Proofs.YtkjhdgomkdemkaaDoorW.PrintWords
set_option linter.unusedVariables false
set_option linter.unusedSimpArgs false
set_option maxRecDepth 100000
def Done (w : World) (e : Ending) (w' : World) : Prop := e = .returned (.bool true) ∧ Below w.heap.size w w'
/-- A list of heights that is read, through whatever draws. -/
theorem heights_at {w : World} {A : Option Addr} {n c : Nat} {base : Nat} {hs : List Int} (h : Kd.R (Kd.int .i64) 3 w base (fun _ => True) (.slice A n c) hs) (hn : 0 < n) :
    n = hs.length ∧ ∃ b off, A = some ⟨b, off, none⟩ ∧ b < w.heap.size ∧ ∀ j, j < n → w.cell? ⟨b, off + j, none⟩ = some (.int .i64 (hs.getD j 0)) := by
  have hI : IntsAt w (.slice A n c) hs := by
    have := Kd.own_of_R h
    exact Row.ints (base := base) this
  obtain ⟨A', c', he, h1, h2, h3⟩ := hI
  injection he with e1 e2 e3
  subst e1 e2
  obtain ⟨b, off, rfl, hc⟩ := h3 hn
  exact ⟨rfl, b, off, rfl, cell_lt (hc 0 hn), hc⟩
set_option maxHeartbeats 4000000 in
theorem heights_walk (p : Prog) (tv cv : Value) (w : World) (h : PrAt w p tv cv) :
    Calls Tryd.prog 4 #[.agg #[.int .u8 p.kind, tv, cv, .int .i64 p.stack]] w (Done w) := by
  have HB : Hid (Below w.heap.size w (w.alloc (.cells #[.int .u8 p.kind, tv, cv, .int .i64 p.stack] 30))) := Lib.hid (below_al (Below.refl _ _) _)
  have HH := Lib.hid (vHeights_any p tv cv _ (h.below HB.out))
  have HW := Lib.hid works23_any
  have H := Lib.hid h
  obtain ⟨tA, tc, rfl, -, ht2, -, -⟩ := h.1
  obtain ⟨cA, cc, rfl, -, hc2, -⟩ := h.2
  obtain ⟨cn, hcn⟩ : ∃ cn, cn = p.code.length := ⟨_, rfl⟩
  obtain ⟨tn, htn⟩ : ∃ tn, tn = p.texts.length := ⟨_, rfl⟩
  rw [← hcn] at H HH HB hc2 ⊢
  rw [← htn] at H HH HB ht2 ⊢
  have HC := Lib.hid hcn
  obtain ⟨kind, hkd⟩ : ∃ kind, kind = p.kind := ⟨_, rfl⟩
  obtain ⟨stack, hst⟩ : ∃ stack, stack = p.stack := ⟨_, rfl⟩
  rw [← hkd, ← hst] at HH HB ⊢
  have HS := Lib.hid hst
  clear h hcn htn hkd hst
  by_cases hbig : 4000 < cn ∨ 10000 < tn
  · have hbig' : (4000 : Int) < (cn : Int) ∨ ((cn : Int) ≤ 4000 ∧ (10000 : Int) < (tn : Int)) := by omega
    clear hbig
    rcases hbig' with h1 | ⟨h1, h2⟩
    all_goals
      go_enter Tryd.func4, Tryd.ntmps4
      go_wp2_with (go_at_call 8; refine (HW.out _).mono ?_; rintro e w2 ⟨rfl, hb2⟩)
      go_ret
      exact ⟨rfl, below_tr HB.out hb2⟩
  · have h1 : (cn : Int) ≤ 4000 := by omega
    have h2 : (tn : Int) ≤ 10000 := by omega
    clear hbig
    rcases walk_cases p with ⟨he, hnil⟩ | ⟨hs, hwk, hgo, hne, hce⟩
    · obtain ⟨er, her⟩ : ∃ er, er = (walkS p).2.2 := ⟨_, rfl⟩
      rw [← her] at HH he
      rw [hnil] at HH
      have he' : (er != 0) = true := by simpa using he
      clear her hnil he
      go_enter Tryd.func4, Tryd.ntmps4
      go_wp2_with (first | (go_at_call 9; refine (HH.out).mono ?_; rintro e w2 ⟨hv, rfl, hR, hb2⟩; obtain ⟨hA, hc, rfl⟩ := Kd.R_slice hR; have HB2 := Lib.hid (below_tr HB.out hb2); clear hR hb2) | (go_at_call 8; refine (HW.out _).mono ?_; rintro e w3 ⟨rfl, hb3⟩))
      go_ret
      exact ⟨rfl, below_tr HB2.out hb3⟩
    · rw [hwk] at HH
      have HL := Lib.hid (heights_law hgo hne)
      have HCE := Lib.hid hce
      have hpos : 0 < cn := by rw [HC.out]; exact List.length_pos_iff.2 hne
      clear hwk hgo hne hce
      obtain ⟨cA', cc', he', -, -, hcd⟩ := H.out.2
      injection he' with e1 e2 e3
      subst e1
      obtain ⟨cb, co, rfl, hcode⟩ := hcd (by rw [← HC.out]; exact hpos)
      have hcb := cell_lt (hcode 0 (by rw [← HC.out]; exact hpos)).1
      have Hcode := Lib.hid hcode
      clear e2 e3 hcd hcode H
      go_enter Tryd.func4, Tryd.ntmps4
      go_wp2_with (go_at_call 9; refine (HH.out).mono ?_; rintro e w2 ⟨hv, rfl, hR, hb2⟩; obtain ⟨hA, hc, rfl⟩ := Kd.R_slice hR; have b0 := cell_below hb2 (a := ⟨w.heap.size, 0, none⟩) (by simp; rfl); have b1 := cell_below hb2 (a := ⟨w.heap.size, 1, none⟩) (by simp; rfl); have b2 := cell_below hb2 (a := ⟨w.heap.size, 2, none⟩) (by simp; rfl); have b3 := cell_below hb2 (a := ⟨w.heap.size, 3, none⟩) (by simp; rfl); have HB2 := Lib.hid (below_tr HB.out hb2); have hl := HL.out.1.trans HC.out.symm; rw [hl] at hR ⊢; obtain ⟨-, hb, ho, rfl, hbl, hcell⟩ := heights_at hR hpos; have Hcell := Lib.hid hcell; have c0 := hcell 0 hpos; rw [Nat.add_zero, HL.out.2.1] at c0; clear hR hb2 hl hcell)
      have h00 : Hid (0 = mxL (hs.take 0)) := Lib.hid rfl
      go_loopw [5, 6] (fun hg i wx => ∃ (k q : Nat) (m : Int), k ≤ cn ∧ i = .int .i64 k ∧ hg = .int .i64 m ∧ Hid (m = mxL (hs.take k)) ∧ wx = w2.drewN q) (fun _ i _ => cn - (intOf i).toNat)
      case atStart => exact ⟨0, 0, 0, Nat.zero_le _, rfl, rfl, h00, rfl⟩
      case round =>
        clear h00
        obtain ⟨k, q, m, hk, rfl, rfl, hm, rfl⟩ := hrel
        by_cases hlt : k < cn
        · have ht := HL.out.2.2.2 k (by rw [HL.out.1, ← HC.out]; exact hlt)
          obtain ⟨x0, x1, -⟩ := Hcode.out k (by rw [← HC.out]; exact hlt)
          have x0 := cell_below HB2.out x0
          have x1 := cell_below HB2.out x1
          have y0 := Hcell.out k hlt
          obtain ⟨x, hx⟩ : ∃ x, x = p.code.getD k default := ⟨_, rfl⟩
          have hn := fun (h : k + 1 < hs.length) => Hcell.out (k + 1) (by rw [HC.out, ← HL.out.1]; exact h)
          have ha := fun (h : (p.code.getD k default).a.toNat < hs.length) => Hcell.out (p.code.getD k default).a.toNat (by rw [HC.out, ← HL.out.1]; exact h)
          have hlen : hs.length = cn := HL.out.1.trans HC.out.symm
          have hm2 : Hid (mxL (hs.take (k + 1)) = max m (hs.getD k 0)) := Lib.hid (by rw [take_snoc_d hs k (by rw [hlen]; exact hlt), mxL_snoc _ _ ht.low, hm.out])
          obtain ⟨t1, t2, t3, t4, t5⟩ := ht
          rw [← hx] at x0 x1 ha t3 t4 t5
          rw [← HS.out] at t2
          obtain ⟨y, hy⟩ : ∃ y, y = hs.getD k 0 := ⟨_, rfl⟩
          rw [← hy] at y0 t1 t2 t3 t4 t5 hm2
          obtain ⟨op, a, b⟩ := x
          simp only at x0 x1 ha t3 t4 t5
          have hsb : stack ≤ 2147483647 := by rw [HS.out]; exact ((right_num (err_zero HCE.out).2.2.1).1 rfl).2
          have w1 : IntKind.i64.wrap ((k : Int) + 1) = (k : Int) + 1 := by rw [IntKind.wrap_i64]; omega
          have w3 : IntKind.i64.wrap (y + 1) = y + 1 := by rw [IntKind.wrap_i64]; omega
          have w4 : IntKind.i64.wrap (y - 1) = y - 1 := by rw [IntKind.wrap_i64]; omega
          have d1 : decide (y < 0) = false := by simp; omega
          have d2 : decide (stack < y) = false := by simp; omega
          have i1 : (0 : Int) ≤ (k : Int) := by omega
          have i2 : (k : Int) < (cn : Int) := by omega
          have i3 : (0 : Int) ≤ (k : Int) + 1 := by omega
          have i4 : ((k : Int) + 1).toNat = k + 1 := by omega
          clear hx hy
          go_wp2
          (go_quiet (fail))
          go_upto_region 16 with fail
          go_cut [8] (fun s8 wx => s8 = .bool (putsB op) ∧ ∃ q', wx = w2.drewN q')
          case first =>
            clear t3 t4 t5 hlen hn ha hm2 hm
            by_cases hp : op = 1 ∨ op = 4 ∨ op = 2 ∨ op = 3 ∨ op = 24 ∨ op = 25 ∨ op = 34 ∨ op = 29
            · rcases hp with rfl | rfl | rfl | rfl | rfl | rfl | rfl | rfl
              all_goals
                as_aux_lemma =>
                go_wp2
                go_meet
                exact ⟨rfl, _, rfl⟩
            · have o1 : (op == 1) = false := by rw [beq_eq_false_iff_ne]; omega
              have o2 : (op == 4) = false := by rw [beq_eq_false_iff_ne]; omega
              have o3 : (op == 2) = false := by rw [beq_eq_false_iff_ne]; omega
              have o4 : (op == 3) = false := by rw [beq_eq_false_iff_ne]; omega
              have o5 : (op == 24) = false := by rw [beq_eq_false_iff_ne]; omega
              have o6 : (op == 25) = false := by rw [beq_eq_false_iff_ne]; omega
              have o7 : (op == 34) = false := by rw [beq_eq_false_iff_ne]; omega
              have o9 : (op == 29) = false := by rw [beq_eq_false_iff_ne]; omega
              clear hp
              go_wp2
              go_meet
              exact ⟨by unfold putsB; rw [o1, o2, o3, o4, o5, o6, o7, o9]; rfl, _, rfl⟩
          case rest =>
            obtain ⟨rfl, q', rfl⟩ := hcut
            by_cases h28 : op = 28
            · obtain ⟨f1, f2, f3, f4, f5⟩ := t4 h28
              have hn := hn f1
              have ha := ha f4
              rw [f2] at hn
              rw [f5] at ha
              rw [hlen] at f1 f4
              obtain ⟨a', rfl⟩ := Int.eq_ofNat_of_zero_le f3
              rw [Int.toNat_natCast] at ha f4
              have i5 : (k : Int) + 1 < (cn : Int) := by omega
              have i6 : (a' : Int) < (cn : Int) := by omega
              subst h28
              rw [show putsB 28 = false from rfl]
              clear t3 t4 t5 hlen f2 f5
              as_aux_lemma => (go_wp2; (refine wp_region_quiet_lit (by kernel_rfl) (by kernel_rfl) ?_); (simp only [List.append_eq, List.cons_append, List.nil_append]); (repeat (go_big_quiet_step (fail))); (refine wpQuiet_nil ?_); (intro _ hw'); (obtain ⟨nq, hw''⟩ := hw'); (subst hw''); go_wp2; go_roundw; (case rel => exact ⟨k + 1, _, _, by omega, by go_num, rfl, Lib.hid hm2.out.symm, rfl⟩); (case measure => simp [intOf]; omega))
            have o8 : (op == 28) = false := by rw [beq_eq_false_iff_ne]; exact h28
            clear h28 t4
            by_cases h29 : op = 29
            · obtain ⟨f3, f4, f5⟩ := t5 h29
              obtain ⟨f1, f2⟩ := t3 (by rw [h29]; rfl)
              have hn := hn f1
              have ha := ha f4
              rw [f2] at hn
              rw [f5] at ha
              rw [hlen] at f1 f4
              obtain ⟨a', rfl⟩ := Int.eq_ofNat_of_zero_le f3
              rw [Int.toNat_natCast] at ha f4
              have i5 : (k : Int) + 1 < (cn : Int) := by omega
              have i6 : (a' : Int) < (cn : Int) := by omega
              subst h29
              rw [show putsB 29 = true from rfl]
              clear t3 t5 hlen f2 f5 o8
              as_aux_lemma => (go_wp2; (refine wp_region_quiet_lit (by kernel_rfl) (by kernel_rfl) ?_); (simp only [List.append_eq, List.cons_append, List.nil_append]); (repeat (go_big_quiet_step (fail))); (refine wpQuiet_nil ?_); (intro _ hw'); (obtain ⟨nq, hw''⟩ := hw'); (subst hw''); go_wp2; go_roundw; (case rel => exact ⟨k + 1, _, _, by omega, by go_num, rfl, Lib.hid hm2.out.symm, rfl⟩); (case measure => simp [intOf]; omega))
            have o9 : (op == 29) = false := by rw [beq_eq_false_iff_ne]; exact h29
            clear h29 t5 ha
            cases hp : putsB op
            · clear t3 hn hlen hp
              as_aux_lemma => (go_wp2; (refine wp_region_quiet_lit (by kernel_rfl) (by kernel_rfl) ?_); (simp only [List.append_eq, List.cons_append, List.nil_append]); (repeat (go_big_quiet_step (fail))); (refine wpQuiet_nil ?_); (intro _ hw'); (obtain ⟨nq, hw''⟩ := hw'); (subst hw''); go_wp2; go_roundw; (case rel => exact ⟨k + 1, _, _, by omega, by go_num, rfl, Lib.hid hm2.out.symm, rfl⟩); (case measure => simp [intOf]; omega))
            · obtain ⟨f1, f2⟩ := t3 hp
              have hn := hn f1
              rw [f2] at hn
              rw [hlen] at f1
              have i5 : (k : Int) + 1 < (cn : Int) := by omega
              clear t3 hlen f2 hp
              as_aux_lemma => (go_wp2; (refine wp_region_quiet_lit (by kernel_rfl) (by kernel_rfl) ?_); (simp only [List.append_eq, List.cons_append, List.nil_append]); (repeat (go_big_quiet_step (fail))); (refine wpQuiet_nil ?_); (intro _ hw'); (obtain ⟨nq, hw''⟩ := hw'); (subst hw''); go_wp2; go_roundw; (case rel => exact ⟨k + 1, _, _, by omega, by go_num, rfl, Lib.hid hm2.out.symm, rfl⟩); (case measure => simp [intOf]; omega))
        · obtain rfl : k = cn := by omega
          have hend : Hid (m = stack) := Lib.hid (by rw [hm.out, List.take_of_length_le (by rw [HL.out.1, HC.out]; omega), HL.out.2.2.1, HS.out])
          obtain rfl := hend.out
          go_wp2_with (go_at_call 8; refine (HW.out _).mono ?_; rintro e w3 ⟨rfl, hb3⟩)
          go_ret
          exact ⟨by simp, below_tr (below_drewN HB2.out _) hb3⟩
end Go.Proofs.YtkjhdgomkdemkaaDoor
