import Derived.Test.YtkjhdgomkdemkaaDoorPVerifyChecksx4
import Derived.Test.YtkjhdgomkdemkaaDoorP1
/-! What is written of a program: the printed function's answer in plain words. -/
namespace Go.Proofs.YtkjhdgomkdemkaaDoor
open Go.RowKit Go.Proofs.YtkjhdgomkdemkaaDoorW.PrintWords
set_option linter.unusedVariables false
set_option linter.unusedSimpArgs false
def toS (x : Instr) : PVerifyChecks.S23 := ⟨x.op, x.a, x.b⟩
theorem bits_or (x : Int) (h0 : 0 ≤ x) (h1 : x < 256) : Go.bits .or .u8 x 128 = x % 128 + 128 := by
  obtain ⟨n, rfl⟩ := Int.eq_ofNat_of_zero_le h0
  have h : ∀ m : Fin 256, Go.bits .or .u8 (m.val : Int) 128 = (m.val : Int) % 128 + 128 := by decide +kernel
  exact h ⟨n, by omega⟩
theorem put_rounds : ∀ (j k m : Nat) (l : List Int), m < 128 ^ (j + 1) → j < k → l.length + j < 140737488355328 → PVerifyChecks.code_put.l0 k l m = some (l ++ vint m)
  | j, 0, _, _, _, h, _ => absurd h (by omega)
  | j, k + 1, m, l, hm, hk, hl => by
    simp only [PVerifyChecks.code_put.l0]
    by_cases h : m < 128
    · rw [if_neg (by omega), if_pos (by omega), vint_small h, show ((m : Int) % 256) = (m : Int) by omega]
    · rw [if_pos (by omega), if_pos (by omega), vint_big h]
      cases j with
      | zero => exact absurd hm (by omega)
      | succ j =>
        rw [bits_or _ (by omega) (by omega), show ((m : Int) / 128) = ((m / 128 : Nat) : Int) by omega]
        rw [put_rounds j k (m / 128) _ (by rw [Nat.div_lt_iff_lt_mul (by decide)]; rw [Nat.pow_succ] at hm; exact hm) (by omega) (by simp; omega), List.append_assoc]
        rw [show ((m : Int) % 256 % 128 + 128) = ((m % 128 + 128 : Nat) : Int) by omega]
        rfl
theorem put_law (k m : Nat) (l : List Int) (hm : m ≤ 2147483647) (hk : 5 ≤ k) (hl : l.length ≤ 100000000) : PVerifyChecks.code_put.f k l m = some (l ++ vint m) := by
  unfold PVerifyChecks.code_put.f
  rw [show ((m : Int) % 4294967296) = m by omega]
  exact put_rounds 4 k m l (Nat.lt_of_le_of_lt hm (by decide)) (by omega) (by omega)
theorem vint_len : ∀ (k n : Nat), n < 128 ^ (k + 1) → (vint n).length ≤ k + 1
  | 0, n, h => by rw [vint_small (by simpa using h)]; simp
  | k + 1, n, h => by
    by_cases h1 : n < 128
    · rw [vint_small h1]; simp
    · rw [vint_big h1, List.length_cons]
      have := vint_len k (n / 128) (by rw [Nat.div_lt_iff_lt_mul (by decide)]; rw [Nat.pow_succ] at h; exact h)
      omega
theorem vint5 {n : Nat} (h : n ≤ 2147483647) : (vint n).length ≤ 5 := vint_len 4 n (Nat.lt_of_le_of_lt h (by decide))
theorem of_law (k : Nat) (op : Int) (hk : 1 ≤ k) : PVerifyChecks.code_of.f k op = some (shapeS op) := by
  obtain ⟨k, rfl⟩ : ∃ q, k = q + 1 := ⟨k - 1, by omega⟩
  unfold PVerifyChecks.code_of.f
  simp only [PVerifyChecks.code_of.j0]
  unfold shapeS hasAB
  by_cases h1 : op = 1
  · subst h1; rfl
  by_cases h2 : op = 2
  · subst h2; rfl
  by_cases h3 : op = 3
  · subst h3; rfl
  by_cases h4 : op = 4
  · subst h4; rfl
  by_cases h5 : op = 34
  · subst h5; rfl
  by_cases h6 : op = 26
  · subst h6; rfl
  by_cases h7 : op = 27
  · subst h7; rfl
  by_cases h8 : op = 28
  · subst h8; rfl
  by_cases h9 : op = 29
  · subst h9; rfl
  by_cases h10 : op = 37
  · subst h10; rfl
  · simp [h1, h2, h3, h4, h5, h6, h7, h8, h9, h10]
theorem shape_bits (op : Int) : (Go.bits .and .u8 (shapeS op) 1 = 0 ↔ (hasAB op || op == 37) = false) ∧ (Go.bits .and .u8 (shapeS op) 2 = 0 ↔ (op == 37) = false) := by
  unfold shapeS
  cases h : hasAB op
  · cases h2 : (op == 37)
    · simp only [Bool.or_self]; decide
    · simp only [Bool.or_true]; decide
  · have h2 : (op == 37) = false := by
      rw [beq_eq_false_iff_ne]
      intro e
      subst e
      exact absurd h (by decide)
    rw [h2]
    simp only [Bool.or_false]; decide
theorem right_num {n : Int} {m : Bool} (h : rightB n m = true) : (m = true → 0 ≤ n ∧ n ≤ 2147483647) ∧ (m = false → n = 0) := by
  unfold rightB at h
  simp only [Bool.or_eq_true, Bool.and_eq_true, beq_iff_eq, decide_eq_true_eq] at h
  constructor
  · intro _; omega
  · intro hm; subst hm; simpa using h
theorem wrong_right {x : Instr} (h : wrongB x = false) : 1 ≤ x.op ∧ x.op ≤ 38 ∧ rightB x.a (hasAB x.op || x.op == 37) = true ∧ rightB x.b (x.op == 37) = true := by
  unfold wrongB at h
  simp only [Bool.or_eq_false_iff, Bool.not_eq_false', decide_eq_false_iff_not] at h
  exact ⟨by omega, by omega, h.1.2, h.2⟩
theorem instrB_len {x : Instr} (h : wrongB x = false) : (instrB x).length ≤ 11 := by
  obtain ⟨_, _, ha, hb⟩ := wrong_right h
  unfold instrB
  rw [List.length_cons, List.length_append]
  have h1 : (if (hasAB x.op || x.op == 37) = true then vint x.a.toNat else []).length ≤ 5 := by
    split
    · rename_i hc
      exact vint5 (by have := (right_num ha).1 hc; omega)
    · simp
  have h2 : (if (x.op == 37) = true then vint x.b.toNat else []).length ≤ 5 := by
    split
    · rename_i hc
      exact vint5 (by have := (right_num hb).1 hc; omega)
    · simp
  omega
theorem rd_toS (code : List Instr) (i : Nat) (x : Instr) (h : code[i]? = some x) : PVerifyChecks.rd_T23 (code.map toS) (i : Int) = toS x := by
  unfold PVerifyChecks.rd_T23
  simp [List.getD_eq_getElem?_getD, h]
theorem wr64 {i : Int} (h0 : -9223372036854775808 ≤ i) (h1 : i ≤ 9223372036854775807) : wrap64 i = i := by unfold wrap64; omega
theorem code_rounds (code : List Instr) (hc : code.length ≤ 1000000) : ∀ (rest done : List Instr) (b : List Int) (k : Nat), code = done ++ rest → (∀ x ∈ rest, wrongB x = false) → 2 * rest.length + 8 ≤ k → b.length + 11 * rest.length ≤ 50000000 →
    PVerifyChecks.code_write.l1 k b (code.map toS) (code.length : Int) (done.length : Int) = some (b ++ (rest.map instrB).flatten)
  | [], done, b, 0, _, _, h, _ => absurd h (by simp)
  | [], done, b, k + 1, hd, _, _, _ => by
    simp only [PVerifyChecks.code_write.l1]
    rw [if_neg (by rw [hd, List.append_nil]; omega)]
    simp
  | x :: rest, done, b, 0, _, _, h, _ => absurd h (by omega)
  | x :: rest, done, b, 1, _, _, h, _ => absurd h (by simp)
  | x :: rest, done, b, k + 2, hd, hw, hk, hb => by
    have hl : code.length = done.length + (rest.length + 1) := by rw [hd]; simp
    have hx : code[done.length]? = some x := by rw [hd]; simp
    have hwx := hw x (by simp)
    have hrd := rd_toS code done.length x hx
    have hih : ∀ b' : List Int, b'.length + 11 * rest.length ≤ 50000000 → PVerifyChecks.code_write.l1 k b' (code.map toS) (code.length : Int) ((done.length : Int) + 1) = some (b' ++ (rest.map instrB).flatten) := fun b' hb' => by
      have := code_rounds code hc rest (done ++ [x]) b' k (by rw [hd]; simp) (fun y hy => hw y (by simp [hy])) (by simp at hk; omega) hb'
      rw [List.length_append] at this
      simpa using this
    have hlen := instrB_len hwx
    obtain ⟨_, _, ha, hbb⟩ := wrong_right hwx
    have hs := shape_bits x.op
    simp only [List.length_cons] at hk hb
    rw [PVerifyChecks.code_write.l1]
    rw [if_pos (by omega), if_pos (by omega), if_pos (by simp; omega), if_pos (by omega), hrd]
    simp only [Option.bind_some, toS]
    rw [of_law _ _ (by omega)]
    simp only [Option.bind_some]
    rw [List.map_cons, List.flatten_cons]
    have hdef : instrB x = x.op :: ((if (hasAB x.op || x.op == 37) = true then vint x.a.toNat else []) ++ (if (x.op == 37) = true then vint x.b.toNat else [])) := rfl
    rw [hdef]
    have hj : ∀ b' : List Int, b'.length ≤ b.length + 6 → PVerifyChecks.code_write.j2 (k + 1) b' (code.map toS) (code.length : Int) (done.length : Int) x.op x.a x.b = some (b' ++ ((if (x.op == 37) = true then vint x.b.toNat else []) ++ (rest.map instrB).flatten)) := fun b' hb' => by
      rw [PVerifyChecks.code_write.j2]
      rw [of_law _ _ (by omega)]
      simp only [Option.bind_some]
      rw [wr64 (by omega) (by omega)]
      cases h37 : (x.op == 37)
      · rw [if_pos (hs.2.2 h37), hih _ (by omega)]
        simp
      · have hbn := (right_num hbb).1 h37
        rw [if_neg (by intro h; rw [hs.2.1 h] at h37; cases h37)]
        have hp := put_law k x.b.toNat b' (by omega) (by omega) (by omega)
        rw [show ((x.b.toNat : Nat) : Int) = x.b by omega] at hp
        rw [hp]
        have h5 : (vint x.b.toNat).length ≤ 5 := vint5 (by omega)
        simp only [Option.bind_some]
        rw [hih _ (by rw [List.length_append]; omega)]
        simp
    cases hab : (hasAB x.op || x.op == 37)
    · rw [if_pos (hs.1.2 hab), hj _ (by simp)]
      simp
    · have han := (right_num ha).1 hab
      rw [if_neg (by intro h; rw [hs.1.1 h] at hab; cases hab)]
      have hp := put_law (k + 1) x.a.toNat (b ++ [x.op]) (by omega) (by omega) (by simp; omega)
      rw [show ((x.a.toNat : Nat) : Int) = x.a by omega] at hp
      rw [hp]
      have h5 : (vint x.a.toNat).length ≤ 5 := vint5 (by omega)
      simp only [Option.bind_some]
      rw [hj _ (by simp; omega)]
      simp
def endB (p : Prog) : Option (List Int) → List Int
  | none => List.replicate 1048577 0
  | some b => b ++ vint p.code.length ++ (p.code.map instrB).flatten
theorem writeS_end (p : Prog) : writeS p = endB p (textsB p.texts (headB p)) := by
  unfold writeS
  cases textsB p.texts (headB p) <;> rfl
theorem bytes_eq (s : ByteArray) : bytesOf s = byteInts s := rfl
theorem texts_rounds (p : Prog) (ht : p.texts.length ≤ 1000000) (hc : p.code.length ≤ 1000000) (hw : ∀ x ∈ p.code, wrongB x = false) (a d : Int) : ∀ (rest done : List ByteArray) (b : List Int) (k : Nat), p.texts = done ++ rest → rest.length + 2 * p.code.length + 20 ≤ k → b.length ≤ 1048590 →
    PVerifyChecks.code_write.l0 k b p.texts (p.texts.length : Int) (done.length : Int) a p.texts (p.code.map toS) d = some (endB p (textsB rest b))
  | _, _, _, 0, _, h, _ => absurd h (by omega)
  | [], done, b, k + 1, hd, hk, hb => by
    have hl : done.length = p.texts.length := by rw [hd, List.append_nil]
    rw [PVerifyChecks.code_write.l0]
    rw [if_neg (by omega)]
    rw [List.length_map, put_law k _ _ (by omega) (by omega) (by omega)]
    have h5 : (vint p.code.length).length ≤ 5 := vint5 (by omega)
    simp only [Option.bind_some, textsB]
    have := code_rounds p.code hc p.code [] (b ++ vint p.code.length) k rfl hw (by omega) (by rw [List.length_append]; omega)
    exact this
  | s :: rest, done, b, k + 1, hd, hk, hb => by
    have hl : p.texts.length = done.length + (rest.length + 1) := by rw [hd]; simp
    have hx : p.texts[done.length]? = some s := by rw [hd]; simp
    have hrd : rdOf ByteArray.empty p.texts (done.length : Int) = s := by simp [rdOf, List.getD_eq_getElem?_getD, hx]
    simp only [List.length_cons] at hk
    rw [PVerifyChecks.code_write.l0]
    rw [if_pos (by omega), if_pos (by omega), if_pos (by omega), hrd, wr64 (by omega) (by omega)]
    rw [textsB]
    by_cases hs : 1048576 - (b.length : Int) < (s.size : Int)
    · rw [if_pos (by omega), if_pos hs, if_pos (by omega)]
      rfl
    · rw [if_neg (by omega), if_neg hs, put_law k _ _ (by omega) (by omega) (by omega)]
      have h5 : (vint s.size).length ≤ 5 := vint5 (by omega)
      simp only [Option.bind_some]
      rw [if_pos (by rw [List.length_append]; omega), wr64 (by omega) (by omega), bytes_eq]
      have hbl : (byteInts s).length = s.size := by rw [← bytes_eq, bytesOf_length]
      have := texts_rounds p ht hc hw a d rest (done ++ [s]) (b ++ vint s.size ++ byteInts s) k (by rw [hd]; simp) (by omega) (by rw [List.length_append, List.length_append, hbl]; omega)
      rw [List.length_append, List.length_singleton, Int.natCast_add] at this
      exact this
/-- What is written. -/
theorem write_law (p : Prog) (ht : p.texts.length ≤ 100000) (hc : p.code.length ≤ 100000) (hw : ∀ x ∈ p.code, wrongB x = false) (hs : rightB p.stack true = true) :
    PVerifyChecks.code_write.f (p.texts.length + 2 * p.code.length + 30) p.kind p.texts (p.code.map toS) p.stack = some (writeS p) := by
  have hn := (right_num hs).1 rfl
  rw [writeS_end]
  unfold PVerifyChecks.code_write.f
  have h1 := put_law (p.texts.length + 2 * p.code.length + 30) p.stack.toNat [86, 80, p.kind] (by omega) (by omega) (by simp)
  rw [show ((p.stack.toNat : Nat) : Int) = p.stack by omega] at h1
  rw [h1]
  have h5 : (vint p.stack.toNat).length ≤ 5 := vint5 (by omega)
  have h6 : (vint p.texts.length).length ≤ 5 := vint5 (by omega)
  simp only [Option.bind_some]
  rw [put_law _ _ _ (by omega) (by omega) (by simp; omega)]
  simp only [Option.bind_some]
  have := texts_rounds p (by omega) (by omega) hw p.kind p.stack p.texts [] (headB p) (p.texts.length + 2 * p.code.length + 30) rfl (by omega) (by unfold headB; simp; omega)
  exact this
end Go.Proofs.YtkjhdgomkdemkaaDoor
