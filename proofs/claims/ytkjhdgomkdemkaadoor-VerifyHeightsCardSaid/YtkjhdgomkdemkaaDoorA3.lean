import Derived.Test.YtkjhdgomkdemkaaDoorA2
import Derived.Test.YtkjhdgomkdemkaaDoorSh
/-! A text's digits, its dot, its name. -/
namespace Go.Proofs.YtkjhdgomkdemkaaDoor
open Go.RowKit
set_option linter.unusedVariables false

theorem dropWhile_nil {α : Type} (p : α → Bool) : ∀ l : List α, l.dropWhile p = [] ↔ ∀ x ∈ l, p x = true
  | [] => by simp
  | a :: l => by
    rw [List.dropWhile_cons]
    by_cases h : p a = true
    · simp [h, dropWhile_nil p l]
    · simp [h]
theorem trimS_nil (l cs : List UInt8) : Lib.trimS l cs = [] ↔ ∀ c ∈ l, cs.contains c = true := by
  unfold Lib.trimS Lib.trimLeftS Lib.trimRightS
  constructor
  · intro h c hc
    by_cases hall : ∀ c ∈ l, cs.contains c = true
    · exact hall c hc
    · exfalso
      have h2 : l.reverse.dropWhile (cs.contains ·) ≠ [] := by
        intro h3
        apply hall
        intro d hd
        have := (dropWhile_nil _ _).1 h3 d (by simpa using hd)
        simpa using this
      have h4 := (dropWhile_nil _ _).1 h
      obtain ⟨x, r, hx⟩ := List.exists_cons_of_ne_nil h2
      have h5 : ¬ cs.contains x = true := by
        have := List.head_dropWhile_not (p := (cs.contains ·)) (l := l.reverse) (by rw [hx]; simp)
        simp only [hx, List.head_cons] at this
        simpa using this
      apply h5
      have := h4 x (by rw [hx]; simp)
      simpa using this
  · intro h
    have : l.reverse.dropWhile (cs.contains ·) = [] := (dropWhile_nil _ _).2 (fun c hc => h c (by simpa using hc))
    rw [this]; rfl
def tenDigits : ByteArray := ⟨#[48, 49, 50, 51, 52, 53, 54, 55, 56, 57]⟩
theorem contains_ten (c : UInt8) : tenDigits.data.toList.contains c = (decide (48 ≤ c.toNat) && decide (c.toNat ≤ 57)) := by
  have h : ∀ n : Fin 256, tenDigits.data.toList.contains (UInt8.ofNat n.val) = (decide (48 ≤ n.val) && decide (n.val ≤ 57)) := by decide +kernel
  have := h ⟨c.toNat, c.toNat_lt⟩
  simpa using this
theorem toList_nil {s : ByteArray} (h : s.data.toList = []) : s.toList = [] := by rw [ByteArray.toList_eq]; exact h
theorem toList_ne {s : ByteArray} (h : s.data.toList ≠ []) : s.toList.isEmpty = false := by
  rw [ByteArray.toList_eq]
  cases hl : s.data.toList with
  | nil => exact absurd hl h
  | cons _ _ => rfl
theorem digits_any (s : ByteArray) (w : World) (hs : s.size ≤ 9223372036854775807) :
    Calls Tryd.prog 78 #[.string s] w fun e w' => e = .returned (.bool (digitsB s.data.toList)) ∧ Below w.heap.size w w' := by
  have ht := Tryd.strings_Trim_digits s tenDigits w hs (by decide) (ascii_of_all (by decide))
  have hk := trimS_nil s.data.toList tenDigits.data.toList
  by_cases h0 : s.data.toList = []
  · have h1 := toList_nil h0
    have h1' : s.toList.isEmpty = true := by rw [h1]; rfl
    have h2 : digitsB s.data.toList = false := by rw [h0]; rfl
    rw [h2]
    clear ht hk h0 h2
    go_enter Tryd.func78, Tryd.ntmps78
    go_wp2
    go_ret
    exact ⟨rfl, Below.refl _ _⟩
  · have h1 := toList_ne h0
    have h1' : ¬ s.toList = [] := by intro h; rw [h] at h1; cases h1
    have h2 : digitsB s.data.toList = s.data.toList.all (fun c => decide (48 ≤ c.toNat) && decide (c.toNat ≤ 57)) := by
      unfold digitsB
      cases hl : s.data.toList with
      | nil => exact absurd hl h0
      | cons _ _ => simp
    have h3 : digitsB s.data.toList = decide (Lib.trimS s.data.toList tenDigits.data.toList = []) := by
      rw [h2, Bool.eq_iff_iff]
      simp only [decide_eq_true_eq, hk, contains_ten, List.all_eq_true]
    rw [h3]
    clear h2 h3 h0 hk
    obtain ⟨r, hr, hN⟩ : ∃ r : ByteArray, r = ⟨(Lib.trimS s.data.toList tenDigits.data.toList).toArray⟩ ∧ r.data.toList = Lib.trimS s.data.toList tenDigits.data.toList := ⟨_, rfl, by simp⟩
    rw [← hr] at ht
    rw [← hN]
    clear hr hN
    unfold tenDigits at ht
    have HT := Lib.hid ht
    clear ht
    by_cases hr0 : r.data.toList = []
    · have hr1 := toList_nil hr0
      have hr1' : r.toList.isEmpty = true := by rw [hr1]; rfl
      rw [hr0]
      clear hr0
      go_enter Tryd.func78, Tryd.ntmps78
      go_wp2_with (go_at_call 89; refine (HT.out).mono ?_; rintro e w' ⟨rfl, hb⟩)
      go_ret
      exact ⟨by simp, by assumption⟩
    · have hr1 := toList_ne hr0
      have hr1' : ¬ r.toList = [] := by intro h; rw [h] at hr1; cases hr1
      have hd : decide (r.data.toList = []) = false := by simpa using hr0
      rw [hd]
      clear hr0 hd
      go_enter Tryd.func78, Tryd.ntmps78
      go_wp2_with (go_at_call 89; refine (HT.out).mono ?_; rintro e w' ⟨rfl, hb⟩)
      go_ret
      exact ⟨rfl, by assumption⟩

/-- A text cut at its first dot. -/
def CutAt (s : ByteArray) (w : World) (e : Ending) (w' : World) : Prop :=
  (∃ a b, e = .returned (.tuple #[.string a, .string b, .bool (Lib.cut s.data.toList [46]).2.2]) ∧ a.data.toList = (Lib.cut s.data.toList [46]).1 ∧ b.data.toList = (Lib.cut s.data.toList [46]).2.1 ∧ a.size ≤ s.size ∧ b.size ≤ s.size) ∧ ∃ n, w' = w.drewN n
theorem slCut_any (s : ByteArray) (w : World) (hs : s.size ≤ 9223372036854775807) :
    Calls Tryd.prog 90 #[.string s, .string ⟨#[46]⟩] w (CutAt s w) := by
  have hc := fun w => Tryd.stringslite_Index_one s 46 w
  rw [← Lib.index_one] at hc
  rcases Lib.indexB_cases s ⟨#[46]⟩ with hix | ⟨i, hix, hroom⟩
  · obtain ⟨e1, e2, e3⟩ := Lib.cutB_miss s ⟨#[46]⟩ hix
    have hix' : Lib.index s.data.toList [46] = -1 := hix
    rw [hix'] at hc
    have HC := Lib.hid hc
    have HE := Lib.hid (And.intro e1 (And.intro e2 e3))
    clear hc e1 e2 e3 hix hix'
    go_enter Tryd.func90, Tryd.ntmps90
    go_wp2_with (go_at_call 98; refine (HC.out _).mono ?_; rintro e w' ⟨rfl, rfl⟩)
    go_ret3
    obtain ⟨e1, e2, e3⟩ := HE.out
    refine ⟨⟨s, ByteArray.empty, ?_, ?_, ?_, Nat.le_refl _, by simp⟩, 0, rfl⟩
    · rw [show (Lib.cut s.data.toList [46]).2.2 = false from e3]; rfl
    · exact (congrArg (fun x : ByteArray => x.data.toList) e1.symm).trans (by simp)
    · exact (congrArg (fun x : ByteArray => x.data.toList) e2.symm).trans (by simp)
  · obtain ⟨e1, e2, e3⟩ := Lib.cutB_hit s ⟨#[46]⟩ i hix
    have hix' : Lib.index s.data.toList [46] = i := hix
    rw [hix'] at hc
    have HC := Lib.hid hc
    have HE := Lib.hid (And.intro e1 (And.intro e2 e3))
    have hroom' : i + 1 ≤ s.size := hroom
    have c1 : (0 : Int) ≤ ↑i := by omega
    have c2 : (↑i : Int) ≤ ↑s.size := by omega
    have c3 : (0 : Int) ≤ ↑i + 1 := by omega
    have c4 : (↑i + 1 : Int) ≤ ↑s.size := by omega
    clear hc e1 e2 e3 hix hix' hroom
    go_enter Tryd.func90, Tryd.ntmps90
    go_wp2_with (go_at_call 98; refine (HC.out _).mono ?_; rintro e w' ⟨rfl, rfl⟩)
    go_region
    all_goals go_wp2
    all_goals go_ret3
    all_goals
      obtain ⟨e1, e2, e3⟩ := HE.out
      refine ⟨⟨s.extract 0 i, s.extract (i + 1) s.size, ?_, ?_, ?_, by simp; omega, by simp⟩, 1, rfl⟩
      · rw [show (Lib.cut s.data.toList [46]).2.2 = true from e3]; rfl
      · exact (congrArg (fun x : ByteArray => x.data.toList) e1.symm).trans (by simp)
      · exact (congrArg (fun x : ByteArray => x.data.toList) e2.symm).trans (by simp)
theorem cut_any (s : ByteArray) (w : World) (hs : s.size ≤ 9223372036854775807) :
    Calls Tryd.prog 79 #[.string s, .string ⟨#[46]⟩] w (CutAt s w) := by
  have H := Lib.hid (slCut_any s w hs)
  go_enter Tryd.func79, Tryd.ntmps79
  go_wp2_with (go_at_call 90; refine (H.out).mono ?_; rintro e w' ⟨⟨a, b, rfl, h⟩, n, rfl⟩)
  go_ret3
  exact ⟨⟨a, b, rfl, by assumption⟩, n, rfl⟩
end Go.Proofs.YtkjhdgomkdemkaaDoor
