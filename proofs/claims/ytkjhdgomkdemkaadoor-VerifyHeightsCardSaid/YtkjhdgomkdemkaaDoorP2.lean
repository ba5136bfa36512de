import Derived.Test.YtkjhdgomkdemkaaDoorP1
/-! Plain words: what the heights of a program that may run are like. -/
namespace Go.Proofs.YtkjhdgomkdemkaaDoor
set_option linter.unusedVariables false
theorem mxL_snoc : ∀ (l : List Int) (x : Int), 0 ≤ x → mxL (l ++ [x]) = max (mxL l) x
  | [], x, h => by simp [mxL]; omega
  | y :: l, x, h => by
    have := mxL_snoc l x h
    simp only [List.cons_append, mxL, this]
    omega
theorem mxL_nonneg : ∀ l : List Int, 0 ≤ mxL l
  | [] => by simp [mxL]
  | y :: l => by have := mxL_nonneg l; simp only [mxL]; omega
theorem mxL_ge : ∀ (l : List Int) (x : Int), x ∈ l → x ≤ mxL l
  | y :: l, x, h => by
    simp only [mxL]
    rcases List.mem_cons.1 h with rfl | h
    · omega
    · have := mxL_ge l x h; omega
theorem take_snoc_d (l : List Int) (k : Nat) (h : k < l.length) : l.take (k + 1) = l.take k ++ [l.getD k 0] := by
  rw [List.take_succ_eq_append_getElem h]
  simp [List.getD_eq_getElem?_getD, h]
/-- The heights, instruction by instruction. -/
structure Tall (p : Prog) (hs : List Int) (k : Nat) : Prop where
  low : 0 ≤ hs.getD k 0
  high : hs.getD k 0 ≤ p.stack
  puts : putsB (p.code.getD k default).op = true → k + 1 < hs.length ∧ hs.getD (k + 1) 0 = hs.getD k 0 + 1
  iff_ : (p.code.getD k default).op = 28 → k + 1 < hs.length ∧ hs.getD (k + 1) 0 = hs.getD k 0 - 1 ∧ 0 ≤ (p.code.getD k default).a ∧ (p.code.getD k default).a.toNat < hs.length ∧ hs.getD (p.code.getD k default).a.toNat 0 = hs.getD k 0 - 1
  guard : (p.code.getD k default).op = 29 → 0 ≤ (p.code.getD k default).a ∧ (p.code.getD k default).a.toNat < hs.length ∧ hs.getD (p.code.getD k default).a.toNat 0 = hs.getD k 0
theorem getD_of {l : List Int} {k : Nat} {v : Int} (h : l[k]? = some v) : l.getD k 0 = v := by rw [List.getD_eq_getElem?_getD, h]; rfl
theorem heights_law {p : Prog} {hs : List Int} (h : goS p p.code 0 [] (fun _ => none) = .ok (hs, p.stack)) (hne : p.code ≠ []) :
    hs.length = p.code.length ∧ hs.getD 0 0 = 0 ∧ mxL hs = p.stack ∧ ∀ k, k < hs.length → Tall p hs k := by
  obtain ⟨h1, h2, h3, _, h5, h6⟩ := goS_at p p.code 0 [] (fun _ => none) hs p.stack h
  have hpos : 0 < p.code.length := List.length_pos_iff.2 hne
  have hmx : mxL hs = p.stack := by rw [← h6 (by omega) hpos]; simp; omega
  refine ⟨h1, getD_of (h3 hpos), hmx, fun k hk => ?_⟩
  have hkc : k < p.code.length := by omega
  have hx : p.code[k]? = some p.code[k] := List.getElem?_eq_getElem hkc
  have hxd : p.code.getD k default = p.code[k] := by simp [List.getD_eq_getElem?_getD, hkc]
  obtain ⟨st, st2, pend, pend2, a1, a2, a3, a4, a5, a6⟩ := (h5 k _ hx).ex
  have g1 := getD_of a1
  have hle : hs.getD k 0 ≤ mxL hs := mxL_ge hs _ (by rw [g1]; exact List.mem_of_getElem? a1)
  have next : ¬ (p.code[k].op = 33 ∨ p.code[k].op = 38) → k + 1 < hs.length ∧ hs.getD (k + 1) 0 = (st2.length : Int) := fun hn => by
    have : k + 1 < hs.length := by
      rcases Nat.lt_or_ge (k + 1) hs.length with h | h
      · exact h
      · exact absurd (a5.2 (by omega)) hn
    exact ⟨this, getD_of (a2 this)⟩
  have lead : ∀ t, (0 : Int) + k < p.code[k].a → p.code[k].a < (p.code.length : Int) → pend2 p.code[k].a = some t → ∀ n : Nat, (t = [0] ∨ t.length = n) → 0 ≤ p.code[k].a ∧ p.code[k].a.toNat < hs.length ∧ hs.getD p.code[k].a.toNat 0 = (n : Int) := fun t b1 b2 b3 n b4 => by
    obtain ⟨c1, c2⟩ := a6 p.code[k].a t (by omega) (by omega) b3
    rw [show (p.code[k].a - ((0 : Nat) : Int)).toNat = p.code[k].a.toNat by simp] at c2
    rcases b4 with b4 | b4
    · exact absurd b4 c1
    · exact ⟨by omega, by omega, by rw [getD_of c2, b4]⟩
  refine ⟨by rw [g1]; omega, by omega, fun hp => ?_, fun hi => ?_, fun hg => ?_⟩
  · rw [hxd] at hp
    have hn : ¬ (p.code[k].op = 33 ∨ p.code[k].op = 38) := by
      intro e
      rcases e with e | e <;> rw [e] at hp <;> exact absurd hp (by decide)
    obtain ⟨n1, n2⟩ := next hn
    exact ⟨n1, by rw [n2, g1, a3.puts hp]; omega⟩
  · rw [hxd] at hi ⊢
    obtain ⟨n1, n2⟩ := next (by omega)
    obtain ⟨b0, b1, b2, t, b3, b4⟩ := a3.iff_ hi
    obtain ⟨d1, d2, d3⟩ := lead t (by simpa using b1) b2 b3 _ b4
    exact ⟨n1, by rw [n2, g1]; omega, d1, d2, by rw [d3, g1]; omega⟩
  · rw [hxd] at hg ⊢
    obtain ⟨b1, b2, t, b3, b4⟩ := a3.guard hg
    obtain ⟨d1, d2, d3⟩ := lead t (by simpa using b1) b2 b3 _ b4
    exact ⟨d1, d2, by rw [d3, g1]⟩
theorem walk_cases (p : Prog) : ((walkS p).2.2 ≠ 0 ∧ (walkS p).1 = []) ∨ (∃ hs, walkS p = (hs, 0, 0) ∧ goS p p.code 0 [] (fun _ => none) = .ok (hs, p.stack) ∧ p.code ≠ [] ∧ codeErr p = 0) := by
  unfold walkS
  by_cases h1 : codeErr p ≠ 0
  · rw [if_pos h1]; exact .inl ⟨h1, rfl⟩
  rw [if_neg h1]
  by_cases h2 : p.kind = 1 ∧ 1024 < p.stack
  · rw [if_pos h2]; exact .inl ⟨by decide, rfl⟩
  rw [if_neg h2]
  cases hg : goS p p.code 0 [] (fun _ => none) with
  | error i => exact .inl ⟨by simp, rfl⟩
  | ok q =>
    obtain ⟨hs, high⟩ := q
    simp only
    by_cases h3 : p.code = [] ∨ high ≠ p.stack
    · rw [if_pos h3]; exact .inl ⟨by simp, rfl⟩
    · rw [if_neg h3]
      refine .inr ⟨hs, rfl, ?_, by intro e; exact h3 (.inl e), by omega⟩
      have : high = p.stack := by
        by_cases e : high = p.stack
        · exact e
        · exact absurd (.inr e) h3
      rw [this]
end Go.Proofs.YtkjhdgomkdemkaaDoor
