import Derived.Test.YtkjhdgomkdemkaaDoorB10
/-! The instruction of a number, whole. -/
namespace Go.Proofs.YtkjhdgomkdemkaaDoor
open Go.RowKit
set_option linter.unusedVariables false
set_option linter.unusedSimpArgs false
set_option maxRecDepth 100000
section
variable {w w' : World} {base g m : Nat} {kind : Int} {tv cv : Value} {stk : Int} {sv hv : Value} {n : Nat} {D : DataW Value} {st : List Int} {pend : Pend} {hs : List Int} {high : Int}
set_option maxHeartbeats 4000000 in
theorem step_bad (h : CkInv w base g m kind tv cv stk sv hv n D st pend hs high) (k : Nat) (hk : k ≤ 1000000) (hpre : preS pend k st = none) :
    Calls Tryd.prog 35 #[.pointer (some ⟨g, 0, none⟩), .int .i64 k, .bool true] w fun e w' => e = .returned (.bool false) ∧ Fr base g m w w' := by
  obtain ⟨t, ht, hbad⟩ : ∃ t, pend k = some t ∧ (t ≠ st ∨ t = st ∧ t = [0]) := by
    unfold preS at hpre
    split at hpre
    · rename_i t ht
      split at hpre
      · cases hpre
      · rename_i hn
        refine ⟨t, ht, ?_⟩
        by_cases h1 : t = st
        · refine .inr ⟨h1, ?_⟩
          by_cases h2 : t = [0]
          · exact h2
          · exact absurd ⟨h1, h2⟩ hn
        · exact .inl h1
    · cases hpre
  have hm : ∃ v, mget D (.int .i64 (k : Int)) = some v := by
    cases hm : mget D (.int .i64 (k : Int)) with
    | none => rw [h.none_ _ hm] at ht; cases ht
    | some v => exact ⟨v, rfl⟩
  obtain ⟨v, hm⟩ := hm
  obtain ⟨t', ht', hrow⟩ := h.pnd _ v hm
  have e := ht.symm.trans ht'
  injection e with e
  subst e
  have hmap := Lib.hid h.map
  have hkey := Lib.hid (keyInt (a := (k : Int)) (by omega) (by omega))
  obtain ⟨c0, c1, c2, c3, c4, c5, c6, c7⟩ := h.cell
  have he := Lib.hid (eqInt_any _ _ t st w hrow.ints h.stack.ints)
  have HM := Lib.hid hm
  rcases hbad with hb | ⟨hb, hz⟩
  · have Hb := Lib.hid (decide_eq_false hb)
    clear hpre ht hm hrow ht' hb h
    go_enter Tryd.func35, Tryd.ntmps35
    go_wp2_with (first | (at_lookup; refine wpList_lookup_held _ rfl _ _ 63 rfl 3 31 lawInt Tryd.underlying63 (.slice none 0 0) (zeroInts _) m n D rfl hmap.out _ _ rfl hkey.out (some v) HM.out ?_) | (go_at_call 44; refine (he.out).mono ?_; rintro e w' ⟨rfl, q, rfl⟩; rw [Hb.out]))
    go_ret
    exact ⟨by simp, Fr.drewN ..⟩
  · have Hb := Lib.hid (decide_eq_true hb)
    obtain ⟨tA, tcap, hv', ht1, ht2, ht3⟩ := hrow.reads
    obtain ⟨tb, toff, hA, ht4⟩ := ht3 (by rw [hz]; simp)
    have hx := ht4 0 (by rw [hz]; simp)
    have hg0 : t.getD 0 0 = 0 := by rw [hz]; rfl
    have hl1 : t.length = 1 := by rw [hz]; rfl
    rw [Nat.add_zero, hg0] at hx
    rw [hA, hl1] at hv'
    subst hv'
    clear hpre ht hm hrow ht' hb h ht3 ht4 hz ht1 ht2 hg0 hl1 hA
    go_enter Tryd.func35, Tryd.ntmps35
    go_wp2_with (first | (at_lookup; refine wpList_lookup_held _ rfl _ _ 63 rfl 3 31 lawInt Tryd.underlying63 (.slice none 0 0) (zeroInts _) m n D rfl hmap.out _ _ rfl hkey.out (some _) HM.out ?_) | (go_at_call 44; refine (he.out).mono ?_; rintro e w' ⟨rfl, q, rfl⟩; rw [Hb.out]))
    go_ret
    exact ⟨by simp, Fr.drewN ..⟩
end
end Go.Proofs.YtkjhdgomkdemkaaDoor
