import Derived.Test.YtkjhdgomkdemkaaDoorA3
/-! Is a text a name? -/
namespace Go.Proofs.YtkjhdgomkdemkaaDoor
open Go.RowKit
set_option linter.unusedVariables false

/-- How far from a place on bytes are letters or digits. -/
def whileN : List UInt8 → Nat → Nat
  | [], k => k
  | c :: l, k => if nameC c = true then whileN l (k + 1) else k
theorem whileN_drop (l : List UInt8) (k : Nat) (h : k < l.length) : whileN (l.drop k) k = if nameC l[k] = true then whileN (l.drop (k + 1)) (k + 1) else k := by
  rw [List.drop_eq_getElem_cons h, whileN]
theorem whileN_all : ∀ (l : List UInt8) (k : Nat), (whileN l k = k + l.length ↔ l.all nameC = true) ∧ whileN l k ≤ k + l.length
  | [], k => by simp [whileN]
  | c :: l, k => by
    rw [whileN]
    obtain ⟨h1, h2⟩ := whileN_all l (k + 1)
    by_cases h : nameC c = true
    · simp only [h, if_true, List.length_cons, List.all_cons, Bool.true_and]
      rw [← h1]
      omega
    · simp [h]
theorem while_walk (g : Nat) (s : ByteArray) (k0 : Nat) (w : World) (hk0 : k0 ≤ s.size) (hs : s.size ≤ 9223372036854775807) (hc : w.cell? ⟨g, 0, none⟩ = some (.string s)) :
    Calls Tryd.prog 86 #[.pointer (some ⟨g, 0, none⟩), .int .i64 k0, .func (.func 87) #[] #[]] w fun e w' => e = .returned (.int .i64 (whileN (s.data.toList.drop k0) k0)) ∧ w = w' := by
  obtain ⟨res, hres⟩ : ∃ res, res = whileN (s.data.toList.drop k0) k0 := ⟨_, rfl⟩
  rw [← hres]
  have h00 := Lib.hid hres
  clear hres
  go_enter Tryd.func86, Tryd.ntmps86
  go_wp2
  go_loop [1] (fun i => ∃ k : Nat, k ≤ s.size ∧ i = .int .i64 k ∧ Hid (res = whileN (s.data.toList.drop k) k)) (fun i => s.size - (intOf i).toNat)
  case atStart => exact ⟨k0, hk0, rfl, h00⟩
  case round =>
    obtain ⟨k, hk, rfl, hs1⟩ := hrel
    by_cases hlt : k < s.size
    · have hd := whileN_drop s.data.toList k (by simpa using hlt)
      have hx : s.data.toList[k]'(by simpa using hlt) = s[k] := rfl
      rw [hx] at hd
      unfold nameC at hd
      have Hd := Lib.hid hd
      clear hd hx
      cases hb : (letterB (s[k].toNat : Int) || digitB (s[k].toNat : Int))
      all_goals
        have HB := Lib.hid hb
        clear hb
        go_wp2_with (go_at_call 87; refine (name1_any _ _).mono ?_; rintro e w' ⟨rfl, rfl⟩; rw [HB.out])
      · go_ret
        exact ⟨ret_i64 (by rw [hs1.out, Hd.out, HB.out]; rfl), rfl⟩
      · go_round
        case rel => exact ⟨k + 1, by omega, by go_num, Lib.hid (by rw [hs1.out, Hd.out, HB.out]; rfl)⟩
        case measure => simp [intOf]; omega
    · obtain rfl : k = s.size := by omega
      go_wp2
      go_ret
      refine ⟨ret_i64 ?_, rfl⟩
      rw [hs1.out, List.drop_of_length_le (by simp)]; rfl
theorem name_any (s : ByteArray) (w : World) (hs : s.size ≤ 9223372036854775807) :
    Calls Tryd.prog 77 #[.string s] w fun e w' => e = .returned (.bool (nameB s.data.toList)) ∧ Below w.heap.size w w' := by
  by_cases h0 : s.data.toList = []
  · have h1 := toList_nil h0
    have h1' : s.toList.isEmpty = true := by rw [h1]; rfl
    have h2 : nameB s.data.toList = false := by rw [h0]; rfl
    rw [h2]
    clear h0 h2
    go_enter Tryd.func77, Tryd.ntmps77
    go_wp2
    go_ret
    exact ⟨rfl, Below.refl _ _⟩
  · have h1 := toList_ne h0
    have h1' : ¬ s.toList = [] := by intro h; rw [h] at h1; cases h1
    have hsz : 0 < s.size := by
      rcases Nat.eq_zero_or_pos s.size with h | h
      · exact absurd (List.eq_nil_of_length_eq_zero (by simpa using h)) h0
      · exact h
    have hN : nameB s.data.toList = (letterB (s[0].toNat : Int) && decide (whileN (s.data.toList.drop 1) 1 = s.size)) := by
      have hx : s.data.toList = s[0] :: s.data.toList.drop 1 := by
        have hz : 0 < s.data.toList.length := by simpa using hsz
        exact List.drop_eq_getElem_cons hz
      conv => lhs; rw [hx]
      rw [nameB]
      congr 1
      have := (whileN_all (s.data.toList.drop 1) 1).1
      rw [show 1 + (s.data.toList.drop 1).length = s.size by simp; omega] at this
      rw [Bool.eq_iff_iff, decide_eq_true_eq, this]
    rw [hN]
    have hwl := (whileN_all (s.data.toList.drop 1) 1).2
    clear h0 hN hwl
    have hW := fun g w hc => while_walk g s 1 w (by omega) hs hc
    generalize hwn : whileN (s.data.toList.drop 1) 1 = wn at *
    have HW := Lib.hid hW
    clear hW hwn
    cases hl : letterB (s[0].toNat : Int)
    all_goals
      have HL := Lib.hid hl
      clear hl
      go_enter Tryd.func77, Tryd.ntmps77
      go_wp2_with (first | (go_at_call 85; refine (letter_any _ _).mono ?_; rintro e w' ⟨rfl, rfl⟩; rw [HL.out]) | (go_at_call 86; refine (HW.out _ _ (by simp)).mono ?_; rintro e w' ⟨rfl, rfl⟩))
      go_ret
    · exact ⟨rfl, Below.refl _ _⟩
    · exact ⟨ret_bool (by rw [Bool.eq_iff_iff]; simp; omega), (Below.refl _ _).alloc (Nat.le_refl _) _⟩
end Go.Proofs.YtkjhdgomkdemkaaDoor
