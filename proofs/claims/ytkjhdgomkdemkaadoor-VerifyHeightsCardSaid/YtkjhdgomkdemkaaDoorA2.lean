import Derived.Test.YtkjhdgomkdemkaaDoorA1
/-! Loops that only read: equal lists, a mark in a list, a name's letters. -/
namespace Go.Proofs.YtkjhdgomkdemkaaDoor
open Go.RowKit
set_option linter.unusedVariables false

theorem list_eq_getD {α : Type} {la lb : List α} {n : Nat} (d : α) (h1 : la.length = n) (h2 : lb.length = n) (h : ∀ j, j < n → la.getD j d = lb.getD j d) : la = lb := by
  apply List.ext_getElem (by omega)
  intro i hi hi'
  have := h i (by omega)
  simpa [List.getD_eq_getElem?_getD, hi, hi'] using this
theorem ret_bool {a b : Bool} (h : a = b) : Ending.returned (.bool a) = .returned (.bool b) := by rw [h]
theorem ret_i64 {a b : Int} (h : a = b) : Ending.returned (.int .i64 a) = .returned (.int .i64 b) := by rw [h]

theorem eqInt_walk (la lb : List Int) (n : Nat) (A B : Option Addr) (ca cb : Nat) (w : World) (hla : la.length = n) (hlb : lb.length = n) (hn : n ≤ 9223372036854775807)
    (ha : 0 < n → ∃ b off, A = some ⟨b, off, none⟩ ∧ ∀ j, j < n → w.cell? ⟨b, off + j, none⟩ = some (.int .i64 (la.getD j 0)))
    (hb : 0 < n → ∃ b off, B = some ⟨b, off, none⟩ ∧ ∀ j, j < n → w.cell? ⟨b, off + j, none⟩ = some (.int .i64 (lb.getD j 0))) :
    Calls Tryd.prog 44 #[.slice A n ca, .slice B n cb] w fun e w' => e = .returned (.bool (decide (la = lb))) ∧ ∃ q, w' = w.drewN q := by
  have HA := Lib.hid ha
  have HB := Lib.hid hb
  have hl1 := Lib.hid hla
  have hl2 := Lib.hid hlb
  clear ha hb hla hlb
  go_enter Tryd.func44, Tryd.ntmps44
  go_wp2
  go_loopw [13] (fun i wr => ∃ k q : Nat, k ≤ n ∧ i = .int .i64 k ∧ wr = w.drewN q ∧ Hid (∀ j, j < k → la.getD j 0 = lb.getD j 0)) (fun i _ => n - (intOf i).toNat)
  case atStart => exact ⟨0, 0, Nat.zero_le _, rfl, rfl, Lib.hid (fun j hj => absurd hj (by omega))⟩
  case round =>
    obtain ⟨k, q, hk, rfl, rfl, hs⟩ := hrel
    by_cases hlt : k < n
    · obtain ⟨b1, o1, rfl, hc1⟩ := HA.out (by omega)
      obtain ⟨b2, o2, rfl, hc2⟩ := HB.out (by omega)
      have c1 := hc1 k hlt
      have c2 := hc2 k hlt
      clear hc1 hc2 HA HB
      generalize hx : la.getD k 0 = x at c1
      generalize hy : lb.getD k 0 = y at c2
      have hx := Lib.hid hx
      have hy := Lib.hid hy
      by_cases heq : x = y
      · subst heq
        go_wp2
        go_quiet (fail)
        all_goals go_wp2
        go_roundw
        case rel =>
          refine ⟨k + 1, _, by omega, by go_num, rfl, Lib.hid (fun j hj => ?_)⟩
          rcases Nat.lt_or_ge j k with h | h
          · exact hs.out j h
          · obtain rfl : j = k := by omega
            exact hx.out.trans hy.out.symm
        case measure => simp [intOf]; omega
      · have h1 : (x == y) = false := by simpa using heq
        have h2 : (x != y) = true := by simpa using heq
        go_wp2
        go_quiet (fail)
        all_goals go_wp2
        go_ret
        refine ⟨ret_bool ?_, _, World.drewN_drewN ..⟩
        have : ¬ la = lb := fun h => heq (by rw [← hx.out, ← hy.out, h])
        simp [this]
    · obtain rfl : k = n := by omega
      go_wp2
      go_ret
      refine ⟨ret_bool ?_, _, rfl⟩
      have : la = lb := list_eq_getD 0 hl1.out hl2.out hs.out
      simp [this]
theorem eqInt_lens (la lb : List Int) (A B : Option Addr) (ca cb : Nat) (w : World) (hne : la.length ≠ lb.length) (hn1 : la.length ≤ 9223372036854775807) (hn2 : lb.length ≤ 9223372036854775807) :
    Calls Tryd.prog 44 #[.slice A la.length ca, .slice B lb.length cb] w fun e w' => e = .returned (.bool (decide (la = lb))) ∧ ∃ q, w' = w.drewN q := by
  have h0 : Hid (decide (la = lb) = false) := Lib.hid (by simp; intro h; exact hne (by rw [h]))
  generalize la.length = n at *
  generalize lb.length = m at *
  have h1 : (n == m) = false := by simpa using hne
  have h2 : (n != m) = true := by simpa using hne
  have h3 : ((n : Int) == (m : Int)) = false := by simp; omega
  have h4 : ((n : Int) != (m : Int)) = true := by simp; omega
  go_enter Tryd.func44, Tryd.ntmps44
  go_wp2
  go_ret
  exact ⟨ret_bool h0.out.symm, 0, rfl⟩
theorem eqInt_any (va vb : Value) (la lb : List Int) (w : World) (ha : IntsAt w va la) (hb : IntsAt w vb lb) :
    Calls Tryd.prog 44 #[va, vb] w fun e w' => e = .returned (.bool (decide (la = lb))) ∧ ∃ q, w' = w.drewN q := by
  obtain ⟨A, ca, rfl, hca, hna, hra⟩ := ha
  obtain ⟨B, cb, rfl, hcb, hnb, hrb⟩ := hb
  by_cases h : la.length = lb.length
  · have := eqInt_walk la lb la.length A B ca cb w rfl h.symm hna hra (by rw [h]; exact hrb)
    rw [← h]
    exact this
  · exact eqInt_lens la lb A B ca cb w h hna hnb

/-- The first place from which on a mark stands, or -1. -/
def idxMark : List Int → Nat → Int
  | [], _ => -1
  | t :: l, k => if 8 ≤ t then (k : Int) else idxMark l (k + 1)
theorem idxMark_drop (l : List Int) (k : Nat) (h : k < l.length) : idxMark (l.drop k) k = if 8 ≤ l.getD k 0 then (k : Int) else idxMark (l.drop (k + 1)) (k + 1) := by
  rw [List.drop_eq_getElem_cons h, idxMark]
  simp [List.getD_eq_getElem?_getD, h]
theorem idxMark_neg : ∀ (l : List Int) (k : Nat), (decide (0 ≤ idxMark l k)) = l.any (fun t => decide (8 ≤ t))
  | [], _ => by simp [idxMark]
  | t :: l, k => by
    rw [idxMark]
    by_cases h : 8 ≤ t
    · simp [h]
    · have := idxMark_neg l (k + 1)
      simp [h] at this ⊢
      exact this
theorem idxInt_any (v : Value) (l : List Int) (w : World) (hv : IntsAt w v l) :
    Calls Tryd.prog 76 #[v, .func (.func 60) #[] #[]] w fun e w' => e = .returned (.int .i64 (idxMark l 0)) ∧ w = w' := by
  obtain ⟨A, c, rfl, hca, hn, hr⟩ := hv
  have HR := Lib.hid hr
  obtain ⟨res, hres⟩ : ∃ res, res = idxMark l 0 := ⟨_, rfl⟩
  rw [← hres]
  have h00 : Hid (res = idxMark (l.drop 0) 0) := Lib.hid hres
  clear hres
  generalize hN : l.length = n at *
  have HN := Lib.hid hN
  clear hr hN
  go_enter Tryd.func76, Tryd.ntmps76
  go_wp2
  go_loop [8] (fun i => ∃ k : Nat, k ≤ n ∧ i = .int .i64 k ∧ Hid (res = idxMark (l.drop k) k)) (fun i => n - (intOf i).toNat)
  case atStart => exact ⟨0, Nat.zero_le _, rfl, h00⟩
  case round =>
    obtain ⟨k, hk, rfl, hs⟩ := hrel
    by_cases hlt : k < n
    · obtain ⟨b1, o1, rfl, hc1⟩ := HR.out (by omega)
      have c1 := hc1 k hlt
      clear hc1 HR
      have hd := idxMark_drop l k (by rw [HN.out]; exact hlt)
      generalize l.getD k 0 = t at c1 hd
      have Hd := Lib.hid hd
      clear hd
      by_cases h8 : 8 ≤ t
      · go_wp2_with (go_at_call 60; refine (mark_any _ _).mono ?_; rintro e w' ⟨rfl, rfl⟩)
        go_ret
        exact ⟨ret_i64 (by rw [hs.out, Hd.out, if_pos h8]), rfl⟩
      · go_wp2_with (go_at_call 60; refine (mark_any _ _).mono ?_; rintro e w' ⟨rfl, rfl⟩)
        go_round
        case rel => exact ⟨k + 1, by omega, by go_num, Lib.hid (by rw [hs.out, Hd.out, if_neg (by omega)])⟩
        case measure => simp [intOf]; omega
    · obtain rfl : k = n := by omega
      go_wp2
      go_ret
      refine ⟨ret_i64 ?_, rfl⟩
      rw [hs.out, List.drop_of_length_le (by rw [HN.out]; omega)]; rfl
theorem hasInt_any (v : Value) (l : List Int) (w : World) (hv : IntsAt w v l) :
    Calls Tryd.prog 59 #[v, .func (.func 60) #[] #[]] w fun e w' => e = .returned (.bool (l.any (fun t => decide (8 ≤ t)))) ∧ w = w' := by
  rw [← idxMark_neg l 0]
  have H := idxInt_any v l w hv
  generalize idxMark l 0 = r at *
  have H := Lib.hid H
  go_enter Tryd.func59, Tryd.ntmps59
  go_wp2_with (go_at_call 76; refine (H.out).mono ?_; rintro e w' ⟨rfl, rfl⟩)
  go_ret
  exact ⟨rfl, rfl⟩

end Go.Proofs.YtkjhdgomkdemkaaDoor
