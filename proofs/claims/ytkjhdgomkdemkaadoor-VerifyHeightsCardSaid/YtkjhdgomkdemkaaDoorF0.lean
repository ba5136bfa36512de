import Derived.Test.YtkjhdgomkdemkaaDoorD2
import Derived.Lib.SmallJoins
import Derived.SliceStrings
import Derived.Deep.Slices
import Derived.Deep.Fields
import Derived.ChangeSame
import Derived.Carry
import Derived.ProofKit
import Derived.OpenShut
import Derived.LaidMore
import Derived.Lay
import Derived.SevenTiedAt
import Derived.Stop.Joined
/-! A program that is handed in, read as data: it lies there. -/
namespace Go.Proofs.YtkjhdgomkdemkaaDoor
open Go.ChangeShapes Go.WideShapes Go.ChangeAt Go.RowKit Go.Deep Go.Joins
set_option linter.unusedVariables false
set_option maxRecDepth 100000
theorem spot_none {w : World} {a : Addr} {v : Value} (h : w.cell? a = some v) : a = ⟨a.block, a.off, none⟩ := by
  obtain ⟨b, o, s⟩ := a
  cases s with
  | none => rfl
  | some s =>
    exfalso
    unfold World.cell? at h
    split at h <;> simp at h
theorem add0 (a : Addr) : a.add 0 = a := rfl
section
variable {H : Type} {enc : TypeId × Value → H} {w : World} {base : Nat} {spare : Nat → Bool} {held : Bool}
theorem open_texts {fuel : Nat} {c : Value} {x : DataW H × List MemPlace} (h : DataW.trod enc Tryd.prog w base spare held fuel 24 [c] = some x) : ∃ l, StrsAt w c l := by
  rcases open_strings Tryd.underlying24 Tryd.underlying9 (by kernel_rfl) h with ⟨hcs, _⟩ | ⟨a, len, cap, ss, hcs, _, hl, hm, hlen, _, hc, hz⟩
  · simp only [List.cons.injEq, and_true] at hcs
    subst hcs
    exact ⟨[], Option.none, 0, rfl, Nat.le_refl _, by decide, by simp, fun h => absurd h (by simp)⟩
  · simp only [List.cons.injEq, and_true] at hcs
    subst hcs
    unfold maxLen at hm hz
    have hle : len ≤ ss.length := by rw [hlen]; split <;> omega
    have h1 : (ss.take len).length = len := by rw [List.length_take]; omega
    refine ⟨ss.take len, some a, cap, by rw [h1], by omega, by omega, fun s hs => ?_, fun hp => ?_⟩
    · have := hz s (List.mem_of_mem_take hs)
      omega
    · have h0 := hc 0 (by omega)
      rw [add0] at h0
      have ha := spot_none h0
      refine ⟨a.block, a.off, by rw [← ha], fun j hj => ?_⟩
      have := hc j (by omega)
      rw [ha, Addr.add_lit] at this
      rw [this, List.getD_eq_getElem?_getD, List.getD_eq_getElem?_getD, List.getElem?_take_of_lt (by omega)]
theorem open_instrs {fuel : Nat} {c : Value} {x : DataW H × List MemPlace} (h : DataW.trod enc Tryd.prog w base spare held fuel 26 [c] = some x) : ∃ l, InstrsAt w c l := by
  have hC : Tryd.prog.cellsOf 23 = 3 := by kernel_rfl
  have c5 : Tryd.prog.cellsOf 5 = 1 := by kernel_rfl
  have c3 : Tryd.prog.cellsOf 3 = 1 := by kernel_rfl
  rcases open_slice Tryd.underlying26 h with ⟨hcs, _⟩ | ⟨a, len, cap, m, n, D, Pl, hcs, _, hl, hm, hmm, _, hi⟩
  · simp only [List.cons.injEq, and_true] at hcs
    subst hcs
    exact ⟨[], Option.none, 0, rfl, Nat.le_refl _, by decide, fun h => absurd h (by simp)⟩
  · simp only [List.cons.injEq, and_true] at hcs
    subst hcs
    unfold maxLen at hm
    have hle : len ≤ m := by rw [hmm]; split <;> omega
    have each : ∀ i, i < len → ∃ y : Instr, w.cell? (a.add (i * 3)) = some (.int .u8 y.op) ∧ w.cell? ((a.add (i * 3)).add 1) = some (.int .i64 y.a) ∧ w.cell? ((a.add (i * 3)).add 2) = some (.int .i64 y.b) := by
      intro i hil
      obtain ⟨cs', hc, ht⟩ := hi i (by omega)
      rw [hC] at hc
      obtain ⟨_, hcl, hat⟩ := World.cells?_some hc
      obtain ⟨ys, n', _, _, _, hyl, hf⟩ := DataW.trod_struct Tryd.underlying23 ht
      match cs', hcl with
      | [u0, u1, u2], _ =>
        have e0 : DataW.trod enc Tryd.prog w base spare held n' 5 (([u0, u1, u2].drop 0).take (Tryd.prog.cellsOf 5)) = ys[0]? := hf 0 _ rfl
        have e1 : DataW.trod enc Tryd.prog w base spare held n' 3 (([u0, u1, u2].drop 1).take (Tryd.prog.cellsOf 3)) = ys[1]? := hf 1 _ rfl
        have e2 : DataW.trod enc Tryd.prog w base spare held n' 3 (([u0, u1, u2].drop 2).take (Tryd.prog.cellsOf 3)) = ys[2]? := hf 2 _ rfl
        rw [c5] at e0
        rw [c3] at e1 e2
        match ys, hyl with
        | [y0, y1, y2], _ =>
          obtain ⟨n0, z0, _, _⟩ := DataW.trod_int Tryd.underlying5 (show DataW.trod enc Tryd.prog w base spare held n' 5 [u0] = some y0 from e0)
          obtain ⟨n1, z1, _, _⟩ := DataW.trod_int Tryd.underlying3 (show DataW.trod enc Tryd.prog w base spare held n' 3 [u1] = some y1 from e1)
          obtain ⟨n2, z2, _, _⟩ := DataW.trod_int Tryd.underlying3 (show DataW.trod enc Tryd.prog w base spare held n' 3 [u2] = some y2 from e2)
          simp only [List.cons.injEq, and_true] at z0 z1 z2
          subst z0 z1 z2
          exact ⟨⟨n0, n1, n2⟩, hat 0 (by omega), hat 1 (by omega), hat 2 (by omega)⟩
    have hch : ∃ f : Nat → Instr, ∀ i, i < len → w.cell? (a.add (i * 3)) = some (.int .u8 (f i).op) ∧ w.cell? ((a.add (i * 3)).add 1) = some (.int .i64 (f i).a) ∧ w.cell? ((a.add (i * 3)).add 2) = some (.int .i64 (f i).b) := by
      refine ⟨fun i => if hil : i < len then Classical.choose (each i hil) else default, fun i hil => ?_⟩
      simp only [dif_pos hil]
      exact Classical.choose_spec (each i hil)
    obtain ⟨f, hf⟩ := hch
    refine ⟨(List.range len).map f, some a, cap, by simp, by simp; omega, by simp; omega, fun hp => ?_⟩
    have hp : 0 < len := by simpa using hp
    have h0 := (hf 0 hp).1
    rw [Nat.zero_mul, add0] at h0
    have ha := spot_none h0
    refine ⟨a.block, a.off, by rw [← ha], fun j hj => ?_⟩
    have hj : j < len := by simpa using hj
    obtain ⟨g0, g1, g2⟩ := hf j hj
    rw [ha, Addr.add_lit] at g0 g1 g2
    rw [Addr.add_lit] at g1 g2
    have hd : ((List.range len).map f).getD j default = f j := by simp [List.getD_eq_getElem?_getD, hj]
    rw [hd]
    exact ⟨g0, g1, g2⟩
theorem open_prog {r : Reach} {b0 : Nat} {v : Value} {d : DataW H} {p : List MemPlace} (hv : Value.okWide Tryd.prog w r b0 30 v) (h : DataW.Trod enc Tryd.prog w base spare held 30 v d p) :
    ∃ (pr : Prog) (tv cv : Value), v = .agg #[.int .u8 pr.kind, tv, cv, .int .i64 pr.stack] ∧ PrAt w pr tv cv := by
  obtain ⟨v0, v1, v2, v3, y0, y1, y2, y3, n, rfl, _, _, h0, h1, h2, h3⟩ := open_agg4 Tryd.underlying30 (by kernel_rfl) (by kernel_rfl) hv h
  obtain ⟨n0, z0, _, _⟩ := DataW.trod_int Tryd.underlying5 h0
  obtain ⟨n3, z3, _, _⟩ := DataW.trod_int Tryd.underlying3 h3
  obtain ⟨texts, ht⟩ := open_texts h1
  obtain ⟨code, hc⟩ := open_instrs h2
  simp only [List.cons.injEq, and_true] at z0 z3
  subst z0 z3
  exact ⟨⟨n0, texts, code, n3⟩, v1, v2, rfl, ht, hc⟩
end
end Go.Proofs.YtkjhdgomkdemkaaDoor
