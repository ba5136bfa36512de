import Derived.Test.YtkjhdgomkdemkaaDoorB1
import Derived.BigQuiet
/-! May a program be written: one instruction, one number. -/
namespace Go.Proofs.YtkjhdgomkdemkaaDoor
open Go.RowKit
set_option linter.unusedVariables false
/-- A list of instructions that is read. -/
def InstrsAt (w : World) (v : Value) (l : List Instr) : Prop :=
  ∃ A cap, v = .slice A l.length cap ∧ l.length ≤ cap ∧ l.length ≤ 9223372036854775807 ∧
    (0 < l.length → ∃ b off, A = some ⟨b, off, none⟩ ∧ ∀ j, j < l.length → w.cell? ⟨b, off + j * 3, none⟩ = some (.int .u8 (l.getD j default).op) ∧ w.cell? ⟨b, off + j * 3 + 1, none⟩ = some (.int .i64 (l.getD j default).a) ∧ w.cell? ⟨b, off + j * 3 + 2, none⟩ = some (.int .i64 (l.getD j default).b))
theorem right_any (n : Int) (meant : Bool) (w : World) : Calls Tryd.prog 22 #[.int .i64 n, .bool meant] w fun e w' => e = .returned (.bool (rightB n meant)) ∧ w = w' := by
  cases h0 : (n == 0)
  · cases meant
    · go_enter Tryd.func22, Tryd.ntmps22
      go_wp2
      go_ret
      exact ⟨ret_bool (by simp [rightB, h0]), rfl⟩
    · by_cases h1 : 0 < n
      · by_cases h2 : n ≤ 2147483647
        · go_enter Tryd.func22, Tryd.ntmps22
          go_wp2
          go_ret
          exact ⟨ret_bool (by simp [rightB, h0, h1, h2]), rfl⟩
        · have h3 : 2147483647 < n := by omega
          go_enter Tryd.func22, Tryd.ntmps22
          go_wp2
          go_ret
          exact ⟨ret_bool (by simp [rightB, h0, h2]), rfl⟩
      · have h3 : n ≤ 0 := by omega
        go_enter Tryd.func22, Tryd.ntmps22
        go_wp2
        go_ret
        exact ⟨ret_bool (by simp [rightB, h0]; omega), rfl⟩
  · have h3 : n = 0 := beq_iff_eq.1 h0
    subst h3
    go_enter Tryd.func22, Tryd.ntmps22
    go_wp2
    go_ret
    exact ⟨ret_bool (by simp [rightB]), rfl⟩
theorem of_any (op : Int) (w : World) : Calls Tryd.prog 33 #[.int .u8 op] w fun e w' => e = .returned (.int .u8 (shapeS op)) ∧ w = w' := by
  obtain ⟨r, hr⟩ : ∃ r, r = shapeS op := ⟨_, rfl⟩
  rw [← hr]
  have HR := Lib.hid hr
  clear hr
  have hop : op = 1 ∨ op = 2 ∨ op = 3 ∨ op = 4 ∨ op = 34 ∨ op = 26 ∨ op = 27 ∨ op = 28 ∨ op = 29 ∨ op = 37 ∨ (op ≠ 1 ∧ op ≠ 2 ∧ op ≠ 3 ∧ op ≠ 4 ∧ op ≠ 34 ∧ op ≠ 26 ∧ op ≠ 27 ∧ op ≠ 28 ∧ op ≠ 29 ∧ op ≠ 37) := by omega
  rcases hop with rfl | rfl | rfl | rfl | rfl | rfl | rfl | rfl | rfl | rfl | ⟨h1, h2, h3, h4, h5, h6, h7, h8, h9, h10⟩
  all_goals
    go_enter Tryd.func33, Tryd.ntmps33
    go_wp2
    go_ret
    refine ⟨?_, rfl⟩
    rw [HR.out]
    simp [shapeS, hasAB, *]
end Go.Proofs.YtkjhdgomkdemkaaDoor
