import Derived.Test.YtkjhdgomkdemkaaDoorC2
/-! Is there an instruction that may not be written? -/
namespace Go.Proofs.YtkjhdgomkdemkaaDoor
open Go.RowKit
set_option linter.unusedVariables false
/-- The first place from which on such an instruction stands, or -1. -/
def idxWrong : List Instr → Nat → Int
  | [], _ => -1
  | x :: l, k => if wrongB x = true then (k : Int) else idxWrong l (k + 1)
theorem idxWrong_drop (l : List Instr) (k : Nat) (h : k < l.length) : idxWrong (l.drop k) k = if wrongB (l.getD k default) = true then (k : Int) else idxWrong (l.drop (k + 1)) (k + 1) := by
  rw [List.drop_eq_getElem_cons h, idxWrong]
  simp [List.getD_eq_getElem?_getD, h]
theorem idxWrong_neg : ∀ (l : List Instr) (k : Nat), (decide (0 ≤ idxWrong l k)) = l.any wrongB
  | [], _ => by simp [idxWrong]
  | x :: l, k => by
    rw [idxWrong]
    cases h : wrongB x
    · have := idxWrong_neg l (k + 1)
      simp [h] at this ⊢
      exact this
    · simp [h]
theorem InstrsAt.below {w w' : World} {v : Value} {l : List Instr} (h : InstrsAt w v l) (hb : Below w.heap.size w w') : InstrsAt w' v l := by
  obtain ⟨A, cap, h1, h2, h3, h5⟩ := h
  refine ⟨A, cap, h1, h2, h3, fun hp => ?_⟩
  obtain ⟨b, off, h6, h7⟩ := h5 hp
  refine ⟨b, off, h6, fun j hj => ?_⟩
  obtain ⟨e1, e2, e3⟩ := h7 j hj
  have hc : ∀ a u, w.cell? a = some u → w'.cell? a = some u := fun a u h => (hb.cell (World.block_lt_of_cell? w a h)).trans h
  exact ⟨hc _ _ e1, hc _ _ e2, hc _ _ e3⟩
theorem bel_tr {w W W' : World} (h : Below w.heap.size w W) (h' : Below W.heap.size W W') : Below w.heap.size w W' :=
  h.trans ⟨h'.os, h'.tape, h'.output, h'.size, fun i hi => h'.block i (Nat.lt_of_lt_of_le hi h.size)⟩
set_option maxHeartbeats 1000000 in
theorem idxInstr_any (v : Value) (l : List Instr) (w : World) (hv : InstrsAt w v l) :
    Calls Tryd.prog 41 #[v, .func (.func 24) #[] #[]] w fun e w' => e = .returned (.int .i64 (idxWrong l 0)) ∧ Below w.heap.size w w' := by
  have HV := Lib.hid (fun w' hb => InstrsAt.below (w' := w') hv hb)
  obtain ⟨A, c, rfl, hca, hn, hr⟩ := hv
  obtain ⟨res, hres⟩ : ∃ res, res = idxWrong l 0 := ⟨_, rfl⟩
  rw [← hres]
  have h00 : Hid (res = idxWrong (l.drop 0) 0 ∧ Below w.heap.size w w) := Lib.hid ⟨hres, Below.refl _ _⟩
  obtain ⟨n, hN⟩ : ∃ n, n = l.length := ⟨_, rfl⟩
  rw [← hN] at hca hn HV ⊢
  have HN := Lib.hid hN.symm
  clear hr hN hres
  go_enter Tryd.func41, Tryd.ntmps41
  go_wp2
  go_loopw [8] (fun i wx => ∃ k : Nat, k ≤ n ∧ i = .int .i64 k ∧ Hid (res = idxWrong (l.drop k) k ∧ Below w.heap.size w wx)) (fun i _ => n - (intOf i).toNat)
  case atStart => exact ⟨0, Nat.zero_le _, rfl, h00⟩
  case round =>
    obtain ⟨k, hk, rfl, hs⟩ := hrel
    by_cases hlt : k < n
    · obtain ⟨A', c', he, _, _, hr⟩ := HV.out _ hs.out.2
      injection he with e1 e2 e3
      subst e1
      obtain ⟨b, off, rfl, hc⟩ := hr (by rw [HN.out]; omega)
      obtain ⟨x0, x1, x2⟩ := hc k (by rw [HN.out]; exact hlt)
      have hd := idxWrong_drop l k (by rw [HN.out]; exact hlt)
      obtain ⟨x, hx⟩ : ∃ x, x = l.getD k default := ⟨_, rfl⟩
      rw [← hx] at x0 x1 x2 hd
      have HW := Lib.hid (wrong_any x)
      obtain ⟨op, a, b'⟩ := x
      simp only at x0 x1 x2
      have Hd := Lib.hid hd
      clear hd hx hr hc e2 e3 h00
      cases hq : wrongB ⟨op, a, b'⟩
      · rw [hq] at HW Hd
        clear hq
        go_wp2_with (go_at_call 24; refine (HW.out _).mono ?_; rintro e w' ⟨rfl, hb⟩)
        go_roundw
        case rel => exact ⟨k + 1, by omega, by go_num, Lib.hid ⟨by rw [hs.out.1, Hd.out]; rfl, bel_tr hs.out.2 hb⟩⟩
        case measure => simp [intOf]; omega
      · rw [hq] at HW Hd
        clear hq
        go_wp2_with (go_at_call 24; refine (HW.out _).mono ?_; rintro e w' ⟨rfl, hb⟩)
        go_ret
        exact ⟨by rw [hs.out.1, Hd.out]; simp, bel_tr hs.out.2 hb⟩
    · obtain rfl : k = n := by omega
      go_wp2
      go_ret
      refine ⟨?_, hs.out.2⟩
      rw [hs.out.1, List.drop_of_length_le (by rw [HN.out]; omega)]; rfl
theorem hasInstr_any (v : Value) (l : List Instr) (w : World) (hv : InstrsAt w v l) :
    Calls Tryd.prog 23 #[v, .func (.func 24) #[] #[]] w fun e w' => e = .returned (.bool (l.any wrongB)) ∧ Below w.heap.size w w' := by
  rw [← idxWrong_neg l 0]
  have H := Lib.hid (idxInstr_any v l w hv)
  obtain ⟨r, hr⟩ : ∃ r, r = idxWrong l 0 := ⟨_, rfl⟩
  rw [← hr] at H ⊢
  clear hr
  go_enter Tryd.func23, Tryd.ntmps23
  go_wp2_with (go_at_call 41; refine (H.out).mono ?_; rintro e w' ⟨rfl, hb⟩)
  go_ret
  exact ⟨rfl, hb⟩
end Go.Proofs.YtkjhdgomkdemkaaDoor
