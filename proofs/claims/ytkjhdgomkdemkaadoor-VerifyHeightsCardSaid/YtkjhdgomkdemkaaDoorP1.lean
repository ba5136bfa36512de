import Derived.Test.YtkjhdgomkdemkaaDoorP0
/-! Plain words: the checker's way through a program; what is written of one. -/
namespace Go.Proofs.YtkjhdgomkdemkaaDoor
set_option linter.unusedVariables false
theorem vint_small {n : Nat} (h : n < 128) : vint n = [(n : Int)] := by rw [vint, dif_pos h]
theorem vint_big {n : Nat} (h : ¬ n < 128) : vint n = ((n % 128 + 128 : Nat) : Int) :: vint (n / 128) := by rw [vint, dif_neg h]
def goS (p : Prog) : List Instr → Nat → List Int → Pend → Except Nat (List Int × Int)
  | [], _, _, _ => .ok ([], 0)
  | x :: l, i, st, pend =>
    match preS pend i st with
    | none => .error i
    | some (st1, pend1) =>
      match stepS p i x st1 pend1 with
      | none => .error i
      | some (st2, pend2) =>
        match goS p l (i + 1) st2 pend2 with
        | .error k => .error k
        | .ok (hs, high) => .ok ((st1.length : Int) :: hs, max (st2.length : Int) high)
def byteInts (s : ByteArray) : List Int := s.data.toList.map fun c => (c.toNat : Int)
def textsB : List ByteArray → List Int → Option (List Int)
  | [], b => some b
  | s :: l, b => if 1048576 - (b.length : Int) < (s.size : Int) then none else textsB l (b ++ vint s.size ++ byteInts s)
def instrB (x : Instr) : List Int := x.op :: ((if (hasAB x.op || x.op == 37) = true then vint x.a.toNat else []) ++ (if (x.op == 37) = true then vint x.b.toNat else []))
def headB (p : Prog) : List Int := [86, 80, p.kind] ++ vint p.stack.toNat ++ vint p.texts.length
def writeS (p : Prog) : List Int :=
  match textsB p.texts (headB p) with
  | none => List.replicate 1048577 0
  | some b => b ++ vint p.code.length ++ (p.code.map instrB).flatten
def codeErr (p : Prog) : Int :=
  if 32768 < p.code.length ∨ 8192 < p.texts.length then 3
  else if (p.kind ≠ 1 ∧ p.kind ≠ 2) ∨ rightB p.stack true = false ∨ p.code.any wrongB = true then 210
  else if 1048576 < (writeS p).length then 3 else 0
def walkS (p : Prog) : List Int × Int × Int :=
  if codeErr p ≠ 0 then ([], 0, codeErr p)
  else if p.kind = 1 ∧ 1024 < p.stack then ([], 0, 3)
  else match goS p p.code 0 [] (fun _ => none) with
    | .error i => ([], (i : Int), 230)
    | .ok (hs, high) => if p.code = [] ∨ high ≠ p.stack then ([], (p.code.length : Int), 230) else (hs, 0, 0)

/-! ### what stands behind a success -/
def mxL : List Int → Int
  | [] => 0
  | x :: l => max x (mxL l)
theorem pre_some {pend : Pend} {i : Int} {st st1 : List Int} {pend1 : Pend} (h : preS pend i st = some (st1, pend1)) :
    st1 = st ∧ (∀ t, pend i = some t → t = st ∧ t ≠ [0]) ∧ ∀ k, k ≠ i → pend1 k = pend k := by
  unfold preS at h
  split at h
  · rename_i t ht
    split at h
    · rename_i hc
      injection h with e
      injection e with e1 e2
      subst e1 e2
      exact ⟨hc.1, fun t' ht' => (by rw [ht] at ht'; injection ht' with e; subst e; exact hc), fun k hk => by simp [hk]⟩
    · cases h
  · rename_i ht
    injection h with e
    injection e with e1 e2
    subst e1 e2
    exact ⟨rfl, fun t' ht' => (by rw [ht] at ht'; cases ht'), fun k _ => rfl⟩
theorem fw_some {len : Nat} {pend p2 : Pend} {i a : Int} {st : List Int} (h : forwardS len pend i a st = some p2) :
    i < a ∧ a < (len : Int) ∧ (∃ t, p2 a = some t ∧ (t = [0] ∨ t = st)) ∧ (∀ k, k ≠ a → p2 k = pend k) ∧ ∀ t, pend a = some t → p2 a = some t ∨ p2 a = some [0] := by
  unfold forwardS at h
  split at h
  · cases h
  · rename_i hc
    split at h
    · rename_i old ho
      split at h
      · rename_i he
        injection h with e
        subst e
        exact ⟨by omega, by omega, ⟨old, ho, .inr he⟩, fun _ _ => rfl, fun t ht => .inl ht⟩
      · injection h with e
        subst e
        exact ⟨by omega, by omega, ⟨[0], by simp, .inl rfl⟩, fun k hk => by simp [hk], fun t ht => .inr (by simp)⟩
    · rename_i ho
      injection h with e
      subst e
      exact ⟨by omega, by omega, ⟨st, by simp, .inr rfl⟩, fun k hk => by simp [hk], fun t ht => (by rw [ho] at ht; cases ht)⟩
/-- What is told of what leads onward: it is kept, or spoilt. -/
def Kept (p1 p2 : Pend) : Prop := ∀ k t, p1 k = some t → p2 k = some t ∨ p2 k = some [0]
theorem Kept.refl (p : Pend) : Kept p p := fun _ _ h => .inl h
theorem fw_kept {len : Nat} {pend p2 : Pend} {i a : Int} {st : List Int} (h : forwardS len pend i a st = some p2) : Kept pend p2 := by
  obtain ⟨_, _, _, h1, h2⟩ := fw_some h
  intro k t ht
  by_cases hk : k = a
  · subst hk; exact h2 t ht
  · exact .inl (by rw [h1 k hk]; exact ht)
theorem swap_len (st : List Int) (n : Nat) (put : List Int) : (swapS st n put).length = st.length - n + put.length := by
  unfold swapS; rw [List.length_append, List.length_take]; omega
def putsB (op : Int) : Bool := op == 1 || op == 4 || op == 2 || op == 3 || op == 24 || op == 25 || op == 29 || op == 34
theorem top_pos {st : List Int} {n : Nat} {v : Int} (hn : 1 ≤ n) (h : topS st n = v) (hv : v ≠ 0) : n ≤ st.length := by
  unfold topS at h
  split at h
  · assumption
  · exact absurd h.symm hv
/-- What an instruction of a program for conditions leaves. -/
structure Left (len : Nat) (i : Int) (x : Instr) (st st2 : List Int) (pend pend2 : Pend) : Prop where
  kept : Kept pend pend2
  grow : st2.length ≤ st.length + 1
  puts : putsB x.op = true → st2.length = st.length + 1
  iff_ : x.op = 28 → st2.length + 1 = st.length ∧ i < x.a ∧ x.a < (len : Int) ∧ ∃ t, pend2 x.a = some t ∧ (t = [0] ∨ t.length = st2.length)
  guard : x.op = 29 → i < x.a ∧ x.a < (len : Int) ∧ ∃ t, pend2 x.a = some t ∧ (t = [0] ∨ t.length = st.length)
  leap : x.op = 26 ∨ x.op = 27 → i < x.a ∧ x.a < (len : Int)
  last : x.op = 33 ∨ x.op = 38 → st2.length = 0
theorem conds_left {len : Nat} {texts : List ByteArray} {i : Int} {x : Instr} {st st2 : List Int} {pend pend2 : Pend} (h : condsS len texts i x st pend = some (st2, pend2)) : Left len i x st st2 pend pend2 := by
  obtain ⟨op, a, b⟩ := x
  unfold condsS at h
  simp only at h
  have plain : ∀ (n : Nat) (put : List Int), (swapS st n put, pend) = (st2, pend2) → put.length ≤ 1 → n ≤ st.length → (putsB op = true → n = 0 ∧ put.length = 1) → op ≠ 28 → op ≠ 29 → op ≠ 26 → op ≠ 27 → op ≠ 33 → op ≠ 38 → Left len i ⟨op, a, b⟩ st st2 pend pend2 := by
    intro n put e hpl hn hp h1 h2 h3 h4 h5 h6
    injection e with e1 e2
    subst e1 e2
    exact ⟨Kept.refl _, (by rw [swap_len]; omega), fun hq => (by obtain ⟨hz, hq1⟩ := hp hq; subst hz; rw [swap_len, hq1]; rfl), fun h => absurd h h1, fun h => absurd h h2, fun h => h.elim (absurd · h3) (absurd · h4), fun h => h.elim (absurd · h5) (absurd · h6)⟩
  have same : (st, pend) = (st2, pend2) → putsB op = false → op ≠ 28 → op ≠ 29 → op ≠ 26 → op ≠ 27 → (op = 33 ∨ op = 38 → st.length = 0) → Left len i ⟨op, a, b⟩ st st2 pend pend2 := by
    intro e hp h1 h2 h3 h4 h5
    injection e with e1 e2
    subst e1 e2
    exact ⟨Kept.refl _, (by omega), fun h => (by rw [hp] at h; cases h), fun h => absurd h h1, fun h => absurd h h2, fun h => h.elim (absurd · h3) (absurd · h4), h5⟩
  by_cases c1 : op = 1 ∨ op = 4
  · rw [if_pos c1] at h
    split at h
    · injection h with h
      exact plain 0 [1] h (by simp) (Nat.zero_le _) (fun _ => ⟨rfl, rfl⟩) (by omega) (by omega) (by omega) (by omega) (by omega) (by omega)
    · cases h
  rw [if_neg c1] at h
  by_cases c2 : op = 2
  · rw [if_pos c2] at h
    split at h
    · injection h with h
      exact plain 0 [2] h (by simp) (Nat.zero_le _) (fun _ => ⟨rfl, rfl⟩) (by omega) (by omega) (by omega) (by omega) (by omega) (by omega)
    · cases h
  rw [if_neg c2] at h
  by_cases c3 : op = 3
  · rw [if_pos c3] at h
    split at h
    · injection h with h
      exact plain 0 [3] h (by simp) (Nat.zero_le _) (fun _ => ⟨rfl, rfl⟩) (by omega) (by omega) (by omega) (by omega) (by omega) (by omega)
    · cases h
  rw [if_neg c3] at h
  by_cases c4 : op = 24 ∨ op = 25
  · rw [if_pos c4] at h
    injection h with h
    exact plain 0 [4] h (by simp) (Nat.zero_le _) (fun _ => ⟨rfl, rfl⟩) (by omega) (by omega) (by omega) (by omega) (by omega) (by omega)
  rw [if_neg c4] at h
  have np : op ≠ 29 → op ≠ 34 → putsB op = false := fun h1 h2 => by unfold putsB; simp; omega
  by_cases c5 : op = 5
  · rw [if_pos c5] at h
    split at h
    · injection h with h
      exact same h (np (by omega) (by omega)) (by omega) (by omega) (by omega) (by omega) (by omega)
    · cases h
  rw [if_neg c5] at h
  by_cases c6 : op = 6
  · rw [if_pos c6] at h
    split at h
    · rename_i ht
      injection h with h
      exact plain 1 [2] h (by simp) (top_pos (by omega) (beq_iff_eq.1 ht) (by omega)) (fun hp => by rw [np (by omega) (by omega)] at hp; cases hp) (by omega) (by omega) (by omega) (by omega) (by omega) (by omega)
    · cases h
  rw [if_neg c6] at h
  by_cases c7 : op = 7
  · rw [if_pos c7] at h
    split at h
    · rename_i ht
      injection h with h
      exact plain 1 [3] h (by simp) (top_pos (by omega) (beq_iff_eq.1 ht) (by omega)) (fun hp => by rw [np (by omega) (by omega)] at hp; cases hp) (by omega) (by omega) (by omega) (by omega) (by omega) (by omega)
    · cases h
  rw [if_neg c7] at h
  by_cases c8 : op = 8
  · rw [if_pos c8] at h
    split at h
    · rename_i ht
      injection h with h
      rw [Bool.and_eq_true] at ht
      exact plain 2 [1] h (by simp) (top_pos (by omega) (beq_iff_eq.1 ht.1) (by omega)) (fun hp => by rw [np (by omega) (by omega)] at hp; cases hp) (by omega) (by omega) (by omega) (by omega) (by omega) (by omega)
    · cases h
  rw [if_neg c8] at h
  by_cases c22 : op = 22
  · rw [if_pos c22] at h
    split at h
    · rename_i ht
      injection h with h
      rw [Bool.and_eq_true] at ht
      exact plain 2 [4] h (by simp) (top_pos (by omega) (beq_iff_eq.1 ht.1) (by omega)) (fun hp => by rw [np (by omega) (by omega)] at hp; cases hp) (by omega) (by omega) (by omega) (by omega) (by omega) (by omega)
    · cases h
  rw [if_neg c22] at h
  by_cases c9 : op = 9
  · rw [if_pos c9] at h
    split at h
    · injection h with h
      exact same h (np (by omega) (by omega)) (by omega) (by omega) (by omega) (by omega) (by omega)
    · cases h
  rw [if_neg c9] at h
  by_cases c10 : 10 ≤ op ∧ op ≤ 15
  · rw [if_pos c10] at h
    cases hr : arithS op (topS st 2) (topS st 1) with
    | none => rw [hr] at h; cases h
    | some y =>
      rw [hr] at h
      injection h with h
      have h2 : 2 ≤ st.length := by
        unfold arithS at hr
        split at hr
        · rename_i hc
          simp only [Bool.and_eq_true, Bool.or_eq_true, beq_iff_eq] at hc
          rcases hc.1 with e | e <;> exact top_pos (by omega) e (by omega)
        · cases hr
      exact plain 2 [y] h (by simp) h2 (fun hp => by rw [np (by omega) (by omega)] at hp; cases hp) (by omega) (by omega) (by omega) (by omega) (by omega) (by omega)
  rw [if_neg c10] at h
  by_cases c16 : 16 ≤ op ∧ op ≤ 21
  · rw [if_pos c16] at h
    split at h
    · rename_i ht
      injection h with h
      have h2 : 2 ≤ st.length := by
        simp only [Bool.and_eq_true, Bool.or_eq_true, beq_iff_eq] at ht
        rcases ht with ⟨e, _⟩ | ⟨e | e, _⟩ <;> exact top_pos (by omega) e (by omega)
      exact plain 2 [4] h (by simp) h2 (fun hp => by rw [np (by omega) (by omega)] at hp; cases hp) (by omega) (by omega) (by omega) (by omega) (by omega) (by omega)
    · cases h
  rw [if_neg c16] at h
  by_cases c23 : op = 23
  · rw [if_pos c23] at h
    split at h
    · injection h with h
      exact same h (np (by omega) (by omega)) (by omega) (by omega) (by omega) (by omega) (by omega)
    · cases h
  rw [if_neg c23] at h
  by_cases c26 : op = 26 ∨ op = 27
  · rw [if_pos c26] at h
    split at h
    · rename_i ht
      cases hf : forwardS len pend i a st with
      | none => rw [hf] at h; cases h
      | some q =>
        rw [hf] at h
        injection h with h
        injection h with e1 e2
        subst e1 e2
        obtain ⟨f1, f2, _⟩ := fw_some hf
        exact ⟨fw_kept hf, (by first | omega | (rw [swap_len]; simp; omega) | (rw [swap_len]; simp)), fun hp => (by rw [np (by omega) (by omega)] at hp; cases hp), fun e => (by simp only at e; omega), fun e => (by simp only at e; omega), fun _ => ⟨f1, f2⟩, fun e => (by simp only at e; omega)⟩
    · cases h
  rw [if_neg c26] at h
  by_cases c28 : op = 28
  · rw [if_pos c28] at h
    split at h
    · rename_i ht
      have h1 := top_pos (Nat.le_refl 1) (beq_iff_eq.1 ht) (by omega)
      cases hf : forwardS len pend i a (swapS st 1 []) with
      | none => rw [hf] at h; cases h
      | some q =>
        rw [hf] at h
        injection h with h
        injection h with e1 e2
        subst e1 e2
        obtain ⟨f1, f2, ⟨t, f3, f4⟩, _⟩ := fw_some hf
        exact ⟨fw_kept hf, (by first | omega | (rw [swap_len]; simp; omega) | (rw [swap_len]; simp)), fun hp => (by rw [np (by omega) (by omega)] at hp; cases hp), fun _ => ⟨(by rw [swap_len, List.length_nil]; omega), f1, f2, t, f3, f4.imp id (fun e => (by rw [e]))⟩, fun e => (by simp only at e; omega), fun e => (by simp only at e; omega), fun e => (by simp only at e; omega)⟩
    · cases h
  rw [if_neg c28] at h
  by_cases c29 : op = 29
  · rw [if_pos c29] at h
    cases hf : forwardS len pend i a st with
    | none => rw [hf] at h; cases h
    | some q =>
      rw [hf] at h
      injection h with h
      injection h with e1 e2
      subst e1 e2
      obtain ⟨f1, f2, ⟨t, f3, f4⟩, _⟩ := fw_some hf
      exact ⟨fw_kept hf, (by first | omega | (rw [swap_len]; simp; omega) | (rw [swap_len]; simp)), fun _ => (by rw [swap_len]; rfl), fun e => (by simp only at e; omega), fun _ => ⟨f1, f2, t, f3, f4.imp id (fun e => (by rw [e]))⟩, fun e => (by simp only at e; omega), fun e => (by simp only at e; omega)⟩
  rw [if_neg c29] at h
  by_cases c30 : op = 30
  · rw [if_pos c30] at h
    split at h
    · rename_i ht
      injection h with h
      have h1 : 1 ≤ st.length := top_pos (v := topS st 1) (Nat.le_refl 1) rfl (by omega)
      exact plain 1 [] h (by simp) h1 (fun hp => by rw [np (by omega) (by omega)] at hp; cases hp) (by omega) (by omega) (by omega) (by omega) (by omega) (by omega)
    · cases h
  rw [if_neg c30] at h
  by_cases c31 : op = 31
  · rw [if_pos c31] at h
    split at h
    · rename_i ht
      injection h with h
      exact plain 1 [] h (by simp) (top_pos (by omega) (beq_iff_eq.1 ht) (by omega)) (fun hp => by rw [np (by omega) (by omega)] at hp; cases hp) (by omega) (by omega) (by omega) (by omega) (by omega) (by omega)
    · cases h
  rw [if_neg c31] at h
  by_cases c32 : op = 32
  · rw [if_pos c32] at h
    injection h with h
    exact same h (np (by omega) (by omega)) (by omega) (by omega) (by omega) (by omega) (by omega)
  rw [if_neg c32] at h
  by_cases c33 : op = 33
  · rw [if_pos c33] at h
    split at h
    · rename_i h0
      injection h with h
      exact same h (np (by omega) (by omega)) (by omega) (by omega) (by omega) (by omega) (fun _ => h0)
    · cases h
  rw [if_neg c33] at h
  cases h
theorem lics_left {len : Nat} {texts : List ByteArray} {i : Int} {x : Instr} {st st2 : List Int} {pend pend2 : Pend} (h : licsS texts x st pend = some (st2, pend2)) : Left len i x st st2 pend pend2 := by
  obtain ⟨op, a, b⟩ := x
  unfold licsS at h
  simp only at h
  have np : op ≠ 34 → op = 35 ∨ op = 36 ∨ op = 37 ∨ op = 38 → putsB op = false := fun h1 h2 => by unfold putsB; simp; omega
  have plain : ∀ (n : Nat) (put : List Int), (swapS st n put, pend) = (st2, pend2) → put.length ≤ 1 → (putsB op = true → n = 0 ∧ put.length = 1) → op ≠ 28 → op ≠ 29 → op ≠ 26 → op ≠ 27 → (op = 33 ∨ op = 38 → (swapS st n put).length = 0) → Left len i ⟨op, a, b⟩ st st2 pend pend2 := by
    intro n put e hpl hp h1 h2 h3 h4 h5
    injection e with e1 e2
    subst e1 e2
    exact ⟨Kept.refl _, (by rw [swap_len]; omega), fun hq => (by obtain ⟨hz, hq1⟩ := hp hq; subst hz; rw [swap_len, hq1]; rfl), fun h => absurd h h1, fun h => absurd h h2, fun h => h.elim (absurd · h3) (absurd · h4), h5⟩
  by_cases c1 : op = 34
  · rw [if_pos c1] at h
    split at h
    · injection h with h
      exact plain 0 [6] h (by simp) (fun _ => ⟨rfl, rfl⟩) (by omega) (by omega) (by omega) (by omega) (fun e => by omega)
    · cases h
  rw [if_neg c1] at h
  by_cases c2 : op = 35 ∨ op = 36
  · rw [if_pos c2] at h
    split at h
    · injection h with h
      exact plain 1 [] h (by simp) (fun hp => by rw [np c1 (by omega)] at hp; cases hp) (by omega) (by omega) (by omega) (by omega) (fun e => by omega)
    · cases h
  rw [if_neg c2] at h
  by_cases c3 : op = 37
  · rw [if_pos c3] at h
    split at h
    · injection h with h
      exact plain _ [] h (by simp) (fun hp => by rw [np c1 (by omega)] at hp; cases hp) (by omega) (by omega) (by omega) (by omega) (fun e => by omega)
    · cases h
  rw [if_neg c3] at h
  by_cases c4 : op = 38
  · rw [if_pos c4] at h
    split at h
    · rename_i h1
      injection h with h
      exact plain 1 [] h (by simp) (fun hp => by rw [np c1 (by omega)] at hp; cases hp) (by omega) (by omega) (by omega) (by omega) (fun e => by rw [swap_len, h1]; rfl)
    · cases h
  rw [if_neg c4] at h
  cases h
theorem step_left {p : Prog} {i : Int} {x : Instr} {st st2 : List Int} {pend pend2 : Pend} (h : stepS p i x st pend = some (st2, pend2)) :
    Left p.code.length i x st st2 pend pend2 ∧ (st2.length : Int) ≤ p.stack ∧ ((x.op = 33 ∨ x.op = 38) ↔ i = (p.code.length : Int) - 1) := by
  unfold stepS at h
  split at h
  · cases h
  rename_i hl
  split at h
  · cases h
  split at h
  · cases h
  rename_i s2 q2 hm
  split at h
  · rename_i hs
    injection h with e
    injection e with e1 e2
    subst e1 e2
    refine ⟨?_, hs, ?_⟩
    · split at hm
      · exact conds_left hm
      · exact lics_left hm
    · have : (x.op == 33 || x.op == 38) = (i == (p.code.length : Int) - 1) := by
        cases h1 : (x.op == 33 || x.op == 38) <;> cases h2 : (i == (p.code.length : Int) - 1) <;> rw [h1, h2] at hl <;> simp at hl ⊢
      constructor
      · intro e
        have h3 : (x.op == 33 || x.op == 38) = true := by rcases e with e | e <;> simp [e]
        rw [h3] at this
        exact beq_iff_eq.1 this.symm
      · intro e
        have h3 : (i == (p.code.length : Int) - 1) = true := beq_iff_eq.2 e
        rw [h3, Bool.or_eq_true] at this
        exact this.imp beq_iff_eq.1 beq_iff_eq.1
  · cases h
/-- What stands behind a success, instruction by instruction. -/
structure At (p : Prog) (hs : List Int) (i k : Nat) (x : Instr) : Prop where
  ex : ∃ st st2 pend pend2, hs[k]? = some (st.length : Int) ∧ (k + 1 < hs.length → hs[k + 1]? = some (st2.length : Int)) ∧
    Left p.code.length (i + k) x st st2 pend pend2 ∧ (st2.length : Int) ≤ p.stack ∧ ((x.op = 33 ∨ x.op = 38) ↔ (i : Int) + k = (p.code.length : Int) - 1) ∧
    ∀ a t, (i : Int) + k < a → a < (i : Int) + hs.length → pend2 a = some t → t ≠ [0] ∧ hs[(a - i).toNat]? = some (t.length : Int)
theorem goS_at (p : Prog) : ∀ (l : List Instr) (i : Nat) (st : List Int) (pend : Pend) (hs : List Int) (high : Int), goS p l i st pend = .ok (hs, high) →
    hs.length = l.length ∧ 0 ≤ high ∧ (0 < l.length → hs[0]? = some (st.length : Int)) ∧
    (∀ a t, (i : Int) ≤ a → a < (i : Int) + l.length → pend a = some t → t ≠ [0] ∧ hs[(a - i).toNat]? = some (t.length : Int)) ∧
    (∀ k x, l[k]? = some x → At p hs i k x) ∧ (i + l.length = p.code.length → 0 < l.length → max (st.length : Int) high = mxL hs)
  | [], i, st, pend, hs, high, h => by
    injection h with e
    injection e with e1 e2
    subst e1 e2
    exact ⟨rfl, by omega, fun h => absurd h (by simp), fun a t h1 h2 => by simp at h2; omega, fun k x h => by simp at h, fun _ h => absurd h (by simp)⟩
  | x :: l, i, st, pend, hs, high, h => by
    unfold goS at h
    split at h
    · cases h
    rename_i st1 pend1 hpre
    split at h
    · cases h
    rename_i st2 pend2 hstep
    split at h
    · cases h
    rename_i hs' high' hgo
    injection h with e
    injection e with e1 e2
    subst e1 e2
    obtain ⟨r1, r0, r2, r3, r4, r5⟩ := goS_at p l (i + 1) st2 pend2 hs' high' hgo
    obtain ⟨p1, p2, p3⟩ := pre_some hpre
    obtain ⟨s1, s2, s3⟩ := step_left hstep
    subst p1
    have lead : ∀ a t, (i : Int) < a → a < (i : Int) + (l.length + 1) → pend2 a = some t → t ≠ [0] ∧ ((st1.length : Int) :: hs')[(a - i).toNat]? = some (t.length : Int) := by
      intro a t h1 h2 h3
      obtain ⟨e1, e2⟩ := r3 a t (by omega) (by omega) h3
      refine ⟨e1, ?_⟩
      rw [show (a - (i : Int)).toNat = (a - ((i + 1 : Nat) : Int)).toNat + 1 by omega, List.getElem?_cons_succ]
      exact e2
    refine ⟨by simp [r1], by omega, fun _ => rfl, fun a t h1 h2 h3 => ?_, fun k y hk => ?_, fun hn _ => ?_⟩
    · by_cases ha : a = i
      · subst ha
        obtain ⟨e1, e2⟩ := p2 t h3
        refine ⟨e2, ?_⟩
        rw [Int.sub_self]
        simp [e1]
      · have h4 := p3 a ha
        rcases s1.kept a t (h4.trans h3) with h5 | h5
        · exact lead a t (by omega) (by simpa using h2) h5
        · exact absurd rfl (lead a _ (by omega) (by simpa using h2) h5).1
    · cases k with
      | zero =>
        simp at hk
        subst hk
        refine ⟨⟨st1, st2, pend1, pend2, rfl, fun hlt => ?_, by simpa using s1, s2, by simpa using s3, fun a t h1 h2 h3 => lead a t (by omega) (by simp [r1] at h2; omega) h3⟩⟩
        rw [List.getElem?_cons_succ]
        exact r2 (by simp [r1] at hlt; omega)
      | succ k =>
        rw [List.getElem?_cons_succ] at hk
        obtain ⟨s, s', q, q', a1, a2, a3, a4, a5, a6⟩ := (r4 k y hk).ex
        refine ⟨⟨s, s', q, q', by rw [List.getElem?_cons_succ]; exact a1, fun hlt => by rw [List.getElem?_cons_succ]; exact a2 (by simp at hlt; omega), ?_, a4, ?_, fun a t h1 h2 h3 => ?_⟩⟩
        · rw [show ((i : Int) + ((k + 1 : Nat) : Int)) = (((i + 1 : Nat) : Int) + (k : Int)) by omega]; exact a3
        · rw [a5]; omega
        · obtain ⟨e1, e2⟩ := a6 a t (by omega) (by simp at h2; omega) h3
          refine ⟨e1, ?_⟩
          rw [show (a - (i : Int)).toNat = (a - ((i + 1 : Nat) : Int)).toNat + 1 by omega, List.getElem?_cons_succ]
          exact e2
    · rw [mxL]
      cases l with
      | nil =>
        have : hs' = [] := List.eq_nil_of_length_eq_zero r1
        subst this
        have h33 := s3.2 (by simp at hn; omega)
        have h0 := s1.last h33
        have hh : high' = 0 := by
          have := hgo
          unfold goS at this
          injection this with e
          injection e with _ e2
          exact e2.symm
        rw [h0, hh, mxL]; omega
      | cons y l =>
        have := r5 (by simp at hn ⊢; omega) (by simp)
        omega
end Go.Proofs.YtkjhdgomkdemkaaDoor
