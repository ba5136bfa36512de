import Derived.Maps.OwnSet
import Derived.Maps.OwnOps
import Derived.Deep.AppendLies
import Derived.WalkKit
import Derived.Lib.Hide
/-! Plain words over any program: maps whose elements are told as values; rows of whole numbers that lie apart. -/
namespace Go.Proofs.YtkjhdgomkdemkaaDoor
open Go.RowKit
open Go.Maps (Keyed)
set_option linter.unusedVariables false

/-! ### a map's elements, told as values -/
def heldR (v : Value) : Option (DataW Value × List MemPlace) := some (.held v, [])
def mget (D : DataW Value) (l : Lit) : Option Value := if Maps.has D l then (match D.atKey l .nil with | .held v => some v | _ => none) else none
theorem mget_empty (l : Lit) : mget (.map []) l = none := rfl
theorem mget_put_same {D : DataW Value} {k : Lit} (hD : Maps.IsMap D) (hk : WideAt.IsKeyLit k) (v : Value) : mget (D.put k (.held v)) k = some v := by
  unfold mget
  rw [Maps.has_put_same hD hk, Maps.atKey_put_same hD hk]; rfl
theorem mget_put_other {D : DataW Value} {k k' : Lit} (hne : k' ≠ k) (d : DataW Value) : mget (D.put k d) k' = mget D k' := by
  unfold mget
  rw [Maps.has_put_other hne, Maps.atKey_put_other hne]
theorem mget_del_same {D : DataW Value} {k : Lit} : mget (D.del k) k = none := by
  unfold mget
  rw [Maps.has_del_same]; rfl
theorem mget_del_other {D : DataW Value} {k k' : Lit} (hne : k' ≠ k) : mget (D.del k) k' = mget D k' := by
  unfold mget
  rw [Maps.has_del_other hne, Maps.atKey_del_other hne]
theorem atKey_has {D : DataW Value} {k : Lit} (h : Maps.has D k = true) (z z' : DataW Value) : D.atKey k z = D.atKey k z' := by
  cases D <;> try (cases h; done)
  rename_i es
  obtain ⟨p, hp, hpk⟩ := List.any_eq_true.1 h
  have hs : (es.find? (fun p => p.1.sameKey k)).isSome = true := List.find?_isSome.2 ⟨p, hp, hpk⟩
  obtain ⟨x, hx⟩ := Option.isSome_iff_exists.1 hs
  simp [DataW.atKey, hx]
/-- What the look-up's law gives, in these words. -/
theorem held_some {D : DataW Value} {k : Lit} {z v u : Value} {ps : List MemPlace} (h : heldR v = some (D.atKey k (.held z), ps)) (hm : mget D k = some u) : v = u ∧ Maps.has D k = true := by
  unfold mget at hm
  split at hm
  · rename_i hh
    rw [atKey_has hh _ .nil] at h
    unfold heldR at h
    simp only [Option.some.injEq, Prod.mk.injEq] at h
    rw [← h.1] at hm
    exact ⟨by simpa using hm, hh⟩
  · cases hm
theorem held_none {D : DataW Value} {k : Lit} {z v : Value} {ps : List MemPlace} (h : heldR v = some (D.atKey k (.held z), ps)) (hm : mget D k = none) : v = z ∧ Maps.has D k = false := by
  unfold heldR at h
  simp only [Option.some.injEq, Prod.mk.injEq] at h
  unfold mget at hm
  split at hm
  · rename_i hh
    rw [atKey_has hh (.held z) .nil] at h
    rw [← h.1] at hm
    cases hm
  · rename_i hh
    have hh : Maps.has D k = false := by simpa using hh
    rw [Maps.atKey_of_not_has hh] at h
    exact ⟨by simpa using h.1, hh⟩
section
variable {P : Program} (w : World) {ops : Array Oper} {rest : List Oper} {o : Oper} {a : Act} {Q : Exit → Act → World → Prop}
theorem wpList_lookup_held (hg : o.guard = none) (m x : Operand) (t : TypeId) (hop : o.op = Op.lookup t m x true)
    (k e : TypeId) (K : Keyed P k) (ht : P.underlying t = some (.map k e)) (z : Value) (hz : (zeroValue e).run P w = .ok z w) (b n : Nat) (D : DataW Value)
    (hm : a.eval m = .map (some b)) (hown : w.ownsMap P k heldR b n D) (key : Value) (kl : Lit) (hx : a.eval x = key) (hkey : keyOf P k key = some kl) (r : Option Value) (hr : mget D kl = r)
    (hK : wpList P ops Q rest (a.put o.dst (.tuple #[r.getD z, .bool r.isSome])) w) :
    wpList P ops Q (o :: rest) a w :=
  wpList_lookup_own_ok w hg m x t hop k e K ht heldR hz (.held z) [] rfl b n D hm hown key kl hx hkey (fun v ps hv => by
    cases r with
    | some u => obtain ⟨rfl, hh⟩ := held_some hv hr; rw [hh]; exact hK
    | none => obtain ⟨rfl, hh⟩ := held_none hv hr; rw [hh]; exact hK)
end

/-! ### rows that lie apart -/
def ints (l : List Int) : List Value := l.map fun x => .int .i64 x
theorem ints_length (l : List Int) : (ints l).length = l.length := by simp [ints]
theorem ints_append (l m : List Int) : ints (l ++ m) = ints l ++ ints m := by simp [ints]
theorem ints_one (l : List Int) : ∀ u ∈ ints l, u.oneCell' = true := by
  intro u hu
  obtain ⟨x, _, rfl⟩ := List.mem_map.1 hu
  rfl
/-- v is a row of the call's own, of whole numbers of type e. -/
def Row (w : World) (base : Nat) (e : TypeId) (v : Value) (l : List Int) : Prop := w.ownsRow base e 1 v l.length (ints l)
theorem Row.slice {w : World} {base : Nat} {e : TypeId} {v : Value} {l : List Int} (h : Row w base e v l) : ∃ A cap, v = .slice A l.length cap ∧ l.length ≤ cap ∧ cap ≤ maxLen := by
  rcases h.2 with ⟨rfl, h0⟩ | ⟨g, cap, cur, rfl, _, _, h1, h2, _⟩
  · exact ⟨none, 0, by rw [h0], by omega, by decide⟩
  · exact ⟨_, cap, rfl, h1, h2⟩
theorem Row.block {w : World} {base : Nat} {e : TypeId} {v : Value} {l : List Int} (h : Row w base e v l) {g : Nat} (hg : v.ownBlock = some g) : base ≤ g ∧ g < w.heap.size ∧ ∃ cur, w.heap[g]? = some (.cells cur e (0, 0)) := by
  rcases h.2 with ⟨rfl, h0⟩ | ⟨g', cap, cur, rfl, hb, hh, _⟩
  · simp [Value.ownBlock] at hg
  · have : g' = g := by simpa [Value.ownBlock] using hg
    subst this
    exact ⟨hb, (Array.getElem?_eq_some_iff.1 hh).1, cur, hh⟩
theorem Row.reads {w : World} {base : Nat} {e : TypeId} {v : Value} {l : List Int} (h : Row w base e v l) : ∃ A cap, v = .slice A l.length cap ∧ l.length ≤ cap ∧ l.length ≤ 9223372036854775807 ∧
    (0 < l.length → ∃ b off, A = some ⟨b, off, none⟩ ∧ ∀ j, j < l.length → w.cell? ⟨b, off + j, none⟩ = some (.int .i64 (l.getD j 0))) := by
  rcases h.2 with ⟨rfl, h0⟩ | ⟨g, cap, cur, rfl, hb, hh, h1, h2, _⟩
  · exact ⟨none, 0, by rw [h0], by omega, by omega, fun hp => by omega⟩
  · refine ⟨_, cap, rfl, h1, by unfold maxLen at h2; omega, fun _ => ⟨g, 0, rfl, fun j hj => ?_⟩⟩
    have := World.ownsRow.cells h (g := g) rfl j (.int .i64 (l.getD j 0)) (by simp [ints, List.getD_eq_getElem?_getD, hj])
    rw [← this]
    congr 1
    unfold Addr.add; split <;> simp_all
theorem Row.kept {w w' : World} {base : Nat} {e : TypeId} {v : Value} {l : List Int} (h : Row w base e v l) (hk : ∀ g, v.ownBlock = some g → w'.heap[g]? = w.heap[g]?) : Row w' base e v l := by
  refine ⟨h.1, ?_⟩
  rcases h.2 with h2 | ⟨g, cap, cur, rfl, hb, hh, r⟩
  · exact .inl h2
  · exact .inr ⟨g, cap, cur, rfl, hb, (hk g (by simp [Value.ownBlock])).trans hh, r⟩
theorem Row.nil (w : World) (base : Nat) (e : TypeId) : Row w base e (.slice none 0 0) [] := World.ownsRow_nil w base e 1
/-- s[:m]. -/
theorem Row.take {w : World} {base : Nat} {e : TypeId} {A : Option Addr} {n cap m : Nat} {l : List Int} (h : Row w base e (.slice A n cap) l) (hm : m ≤ n) : Row w base e (.slice A m cap) (l.take m) := by
  have hn : n = l.length := by
    obtain ⟨A', c', he, _⟩ := h.slice
    injection he
  have hl : (l.take m).length = m := by rw [List.length_take]; omega
  refine ⟨by rw [ints_length, hl]; omega, ?_⟩
  rcases h.2 with ⟨he, h0⟩ | ⟨g, cap', cur, he, hb, hh, h1, h2, h3, h4⟩
  · injection he with e1 e2 e3
    subst e1 e2 e3
    left
    exact ⟨by rw [show m = 0 by omega], by rw [hl]; omega⟩
  · injection he with e1 e2 e3
    subst e1 e3
    refine .inr ⟨g, cap, cur, by rw [hl], hb, hh, by rw [hl]; omega, h2, h3, ?_⟩
    rw [hl]
    have : ints (l.take m) = (ints l).take m := by simp [ints]
    rw [this, ← h4, List.take_take]
    congr 1
    omega
end Go.Proofs.YtkjhdgomkdemkaaDoor
