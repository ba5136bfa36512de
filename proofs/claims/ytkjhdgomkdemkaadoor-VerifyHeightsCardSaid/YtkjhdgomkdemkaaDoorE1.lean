import Derived.Test.YtkjhdgomkdemkaaDoorD3
/-! A short program may run: what each statement asks besides. -/
namespace Go.Proofs.YtkjhdgomkdemkaaDoor
open Go.RowKit Go.Proofs.YtkjhdgomkdemkaaDoorW.PrintWords
set_option linter.unusedVariables false
set_option linter.unusedSimpArgs false
set_option maxRecDepth 100000
def instrCells : List Instr → List Value
  | [] => []
  | x :: l => .int .u8 x.op :: .int .i64 x.a :: .int .i64 x.b :: instrCells l
theorem instrCells_at : ∀ (l : List Instr) (j : Nat), j < l.length → (instrCells l)[j * 3]? = some (.int .u8 (l.getD j default).op) ∧ (instrCells l)[j * 3 + 1]? = some (.int .i64 (l.getD j default).a) ∧ (instrCells l)[j * 3 + 2]? = some (.int .i64 (l.getD j default).b)
  | [], j, h => absurd h (by simp)
  | x :: l, 0, _ => ⟨rfl, rfl, rfl⟩
  | x :: l, j + 1, h => by
    have := instrCells_at l j (by simpa using h)
    rw [show (j + 1) * 3 = j * 3 + 3 by omega]
    exact this
theorem InstrsAt.block {w : World} {b : Nat} {code : List Instr} {n : Nat} {cs : Array Value} {T : TypeId} (h : w.heap[b]? = some (.cells cs T (0, 0))) (hcs : cs.toList = instrCells code) (hn : n = code.length) (hm : n ≤ 9223372036854775807) : InstrsAt w (.slice (some ⟨b, 0, none⟩) n n) code := by
  subst hn
  refine ⟨_, _, rfl, Nat.le_refl _, hm, fun _ => ⟨b, 0, rfl, fun j hj => ?_⟩⟩
  obtain ⟨h0, h1, h2⟩ := instrCells_at code j hj
  rw [← hcs] at h0 h1 h2
  refine ⟨?_, ?_, ?_⟩
  · rw [cell_of_row w b _ _ _ _ h, Nat.zero_add]; simpa using h0
  · rw [cell_of_row w b _ _ _ _ h, Nat.zero_add]; simpa using h1
  · rw [cell_of_row w b _ _ _ _ h, Nat.zero_add]; simpa using h2
theorem StrsAt.none (w : World) : StrsAt w (.slice none 0 0) [] := ⟨Option.none, 0, rfl, Nat.le_refl _, by decide, by simp, fun h => absurd h (by simp)⟩
theorem InstrsAt.none (w : World) : InstrsAt w (.slice none 0 0) [] := ⟨Option.none, 0, rfl, Nat.le_refl _, by decide, fun h => absurd h (by simp)⟩
/-- A program just laid out is there. -/
theorem PrAt.new (w : World) (kind stack : Int) (code : List Instr) (n : Nat) (cs : Array Value) (hcs : cs.toList = instrCells code) (hn : n = code.length) (hm : n ≤ 9223372036854775807) :
    PrAt (w.alloc (.cells cs 23)) ⟨kind, [], code, stack⟩ (.slice none 0 0) (.slice (some ⟨w.heap.size, 0, none⟩) n n) :=
  ⟨StrsAt.none _, InstrsAt.block (heap_alloc_new w _) hcs hn hm⟩
theorem texts_small : ∀ (l : List ByteArray) (b : List Int), (∀ s ∈ l, s.size ≤ 100) → b.length + 105 * l.length ≤ 1000000 → ∃ b', textsB l b = some b' ∧ b'.length ≤ b.length + 105 * l.length
  | [], b, _, _ => ⟨b, rfl, by simp⟩
  | s :: l, b, hs, hb => by
    have h1 := hs s (by simp)
    have h5 : (vint s.size).length ≤ 5 := vint5 (by omega)
    have h6 : (byteInts s).length = s.size := by rw [← bytes_eq, bytesOf_length]
    simp only [List.length_cons] at hb ⊢
    rw [textsB, if_neg (by omega)]
    obtain ⟨b', e1, e2⟩ := texts_small l (b ++ vint s.size ++ byteInts s) (fun t ht => hs t (by simp [ht])) (by simp; omega)
    refine ⟨b', e1, ?_⟩
    simp only [List.length_append] at e2
    omega
theorem code_small : ∀ (l : List Instr), (∀ x ∈ l, wrongB x = false) → ((l.map instrB).flatten).length ≤ 11 * l.length
  | [], _ => by simp
  | x :: l, h => by
    have h1 := instrB_len (h x (by simp))
    have h2 := code_small l (fun y hy => h y (by simp [hy]))
    simp only [List.map_cons, List.flatten_cons, List.length_append, List.length_cons]
    omega
theorem err_small {p : Prog} (h1 : p.code.length ≤ 4000) (h2 : p.texts.length ≤ 100) (h3 : ∀ s ∈ p.texts, s.size ≤ 100) (h4 : p.kind = 1 ∨ p.kind = 2) (h5 : rightB p.stack true = true) (h6 : p.code.any wrongB = false) : codeErr p = 0 := by
  rw [err_ok (by omega) (by omega) h4 h5 h6, if_neg]
  have hn := (right_num h5).1 rfl
  have hh : (headB p).length ≤ 13 := by
    have a5 : (vint p.stack.toNat).length ≤ 5 := vint5 (by omega)
    have a6 : (vint p.texts.length).length ≤ 5 := vint5 (by omega)
    unfold headB
    simp only [List.length_append, List.length_cons, List.length_nil]
    omega
  obtain ⟨b', e1, e2⟩ := texts_small p.texts (headB p) h3 (by omega)
  have h7 : (vint p.code.length).length ≤ 5 := vint5 (by omega)
  have h8 := code_small p.code (any_false h6)
  rw [writeS_end, e1, endB]
  simp only [List.length_append]
  omega
theorem walk_good {p : Prog} {hs : List Int} (he : codeErr p = 0) (hl : ¬ (p.kind = 1 ∧ 1024 < p.stack)) (hne : p.code ≠ []) (h : goS p p.code 0 [] (fun _ => none) = .ok (hs, p.stack)) : walkS p = (hs, 0, 0) := by
  rw [walk_end he hl h, if_neg (by simp [hne])]
def prA : Prog := ⟨1, [], [⟨24, 0, 0⟩, ⟨28, 2, 0⟩, ⟨33, 0, 0⟩], 1⟩
def prB : Prog := ⟨1, [], [⟨28, 1, 0⟩, ⟨33, 0, 0⟩], 0⟩
theorem walkA : walkS prA = ([0, 1, 0], 0, 0) := walk_good (err_small (by decide) (by decide) (by decide) (.inl rfl) (by decide) (by decide)) (by decide) (by decide) (by rfl)
theorem walkB : walkS prB = ([], 0, 230) := walk_err (p := prB) (k := 0) (err_small (by decide) (by decide) (by decide) (.inl rfl) (by decide) (by decide)) (by decide) (by unfold GoErr; rfl)
theorem works23_any (w : World) : Calls Tryd.prog 8 #[] w fun e w' => e = .returned (.bool true) ∧ Below w.heap.size w w' := by
  have HA := Lib.hid (fun (W : World) (A : Value) (h : PrAt W prA (.slice none 0 0) A) => vCheck_any prA _ _ W h)
  have HB := Lib.hid (fun (W : World) (A : Value) (h : PrAt W prB (.slice none 0 0) A) => vCheck_any prB _ _ W h)
  rw [walkA] at HA
  rw [walkB] at HB
  go_enter Tryd.func8, Tryd.ntmps8
  go_wp2_with fail
  refine (HA.out _ _ (PrAt.new w 1 1 [⟨24, 0, 0⟩, ⟨28, 2, 0⟩, ⟨33, 0, 0⟩] 3 _ rfl rfl (by decide))).mono ?_
  rintro e w2 ⟨rfl, hb2⟩
  have HB2 := Lib.hid (below_tr (below_al (Below.refl _ w) _) hb2)
  clear hb2
  go_wp2_with fail
  refine (HB.out _ _ (PrAt.new w2 1 0 [⟨28, 1, 0⟩, ⟨33, 0, 0⟩] 2 _ rfl rfl (by decide))).mono ?_
  rintro e w3 ⟨rfl, hb3⟩
  have HB3 := Lib.hid (below_tr (below_al HB2.out _) hb3)
  clear hb3
  go_wp2_with fail
  go_ret
  exact ⟨rfl, HB3.out⟩
end Go.Proofs.YtkjhdgomkdemkaaDoor
