import Derived.Test.YtkjhdgomkdemkaaDoorB1
/-! What lies on top of the stack; an instruction's text; is there a mark? -/
namespace Go.Proofs.YtkjhdgomkdemkaaDoor
open Go.RowKit
set_option linter.unusedVariables false

section
variable {w w' : World} {base g m : Nat} {kind : Int} {tv cv : Value} {stk : Int} {sv hv : Value} {n : Nat} {D : DataW Value} {st : List Int} {pend : Pend} {hs : List Int} {high : Int}
theorem top_out (g : Nat) (A : Option Addr) (len cap : Nat) (k : Nat) (w : World) (h4 : w.cell? ⟨g, 4, none⟩ = some (.slice A len cap)) (hk : len < k) :
    Calls Tryd.prog 61 #[.pointer (some ⟨g, 0, none⟩), .int .i64 k] w fun e w' => e = .returned (.int .i64 0) ∧ ∃ q, w' = w.drewN q := by
  go_enter Tryd.func61, Tryd.ntmps61
  go_wp2
  go_ret
  exact ⟨rfl, 0, rfl⟩
theorem top_in (g b off : Nat) (x : Int) (len cap k : Nat) (w : World) (h4 : w.cell? ⟨g, 4, none⟩ = some (.slice (some ⟨b, off, none⟩) len cap)) (hk : k ≤ len) (h1 : 1 ≤ k) (hm : len ≤ 9223372036854775807)
    (hc : w.cell? ⟨b, off + (len - k), none⟩ = some (.int .i64 x)) :
    Calls Tryd.prog 61 #[.pointer (some ⟨g, 0, none⟩), .int .i64 k] w fun e w' => e = .returned (.int .i64 x) ∧ ∃ q, w' = w.drewN q := by
  have hx : ((len : Int) - k).toNat = len - k := by omega
  have hx0 : 0 ≤ (len : Int) - k := by omega
  have hx1 : (len : Int) - k < len := by omega
  go_enter Tryd.func61, Tryd.ntmps61
  go_wp2
  go_quiet (fail)
  all_goals go_wp2
  all_goals go_ret
  all_goals exact ⟨rfl, _, rfl⟩
theorem top_any (h : CkInv w base g m kind tv cv stk sv hv n D st pend hs high) (k : Nat) (h1 : 1 ≤ k) :
    Calls Tryd.prog 61 #[.pointer (some ⟨g, 0, none⟩), .int .i64 k] w fun e w' => e = .returned (.int .i64 (topS st k)) ∧ ∃ q, w' = w.drewN q := by
  obtain ⟨A, cap, rfl, hc1, hc2, hr⟩ := h.stack.reads
  have hc4 := h.cell.2.2.2.2.1
  unfold topS
  by_cases hk : k ≤ st.length
  · rw [if_pos hk]
    obtain ⟨b, off, rfl, hrow⟩ := hr (by omega)
    exact top_in g b off _ _ cap k w hc4 hk h1 hc2 (hrow _ (by omega))
  · rw [if_neg hk]
    exact top_out g A _ cap k w hc4 (by omega)
end

/-- A list of texts that is read. -/
def StrsAt (w : World) (v : Value) (l : List ByteArray) : Prop :=
  ∃ A cap, v = .slice A l.length cap ∧ l.length ≤ cap ∧ l.length ≤ 9223372036854775807 ∧ (∀ s ∈ l, s.size ≤ 9223372036854775807) ∧
    (0 < l.length → ∃ b off, A = some ⟨b, off, none⟩ ∧ ∀ j, j < l.length → w.cell? ⟨b, off + j, none⟩ = some (.string (l.getD j ByteArray.empty)))
theorem cell_lt {w : World} {a : Addr} {v : Value} (h : w.cell? a = some v) : a.block < w.heap.size := World.block_lt_of_cell? w a h
theorem cell_below {w w' : World} (hb : Below w.heap.size w w') {a : Addr} {v : Value} (h : w.cell? a = some v) : w'.cell? a = some v := (hb.cell (cell_lt h)).trans h
theorem StrsAt.below {w w' : World} {v : Value} {l : List ByteArray} (h : StrsAt w v l) (hb : Below w.heap.size w w') : StrsAt w' v l := by
  obtain ⟨A, cap, h1, h2, h3, h4, h5⟩ := h
  refine ⟨A, cap, h1, h2, h3, h4, fun hp => ?_⟩
  obtain ⟨b, off, h6, h7⟩ := h5 hp
  exact ⟨b, off, h6, fun j hj => cell_below hb (h7 j hj)⟩

theorem below_drewN {w w' : World} {B : Nat} (h : Below B w w') (n : Nat) : Below B w (w'.drewN n) := ⟨h.os, h.tape, h.output, h.size, h.block⟩

theorem below_al {w W : World} (h : Below w.heap.size w W) (o : Obj) : Below w.heap.size w (W.alloc o) := h.alloc h.size o
theorem below_tr {w W W' : World} (h : Below w.heap.size w W) (h' : Below W.heap.size W W') : Below w.heap.size w W' :=
  h.trans ⟨h'.os, h'.tape, h'.output, h'.size, fun i hi => h'.block i (Nat.lt_of_lt_of_le hi h.size)⟩
set_option maxHeartbeats 1000000 in
theorem named_out (g : Nat) (op a b : Int) (A : Option Addr) (n cap : Nat) (w : World) (hc : w.cell? ⟨g, 1, none⟩ = some (.slice A n cap)) (ha : (n : Int) ≤ a) :
    Calls Tryd.prog 62 #[.pointer (some ⟨g, 0, none⟩), .agg #[.int .u8 op, .int .i64 a, .int .i64 b]] w fun e w' => e = .returned (.bool false) ∧ Below w.heap.size w w' := by
  have hg : g < w.heap.size := cell_lt hc
  go_enter Tryd.func62, Tryd.ntmps62
  go_wp2
  go_quiet (fail)
  all_goals go_wp2
  all_goals go_ret
  all_goals exact ⟨rfl, below_drewN (below_al (Below.refl _ _) _) _⟩
set_option maxHeartbeats 2000000 in
theorem named_in (g : Nat) (op b : Int) (j : Nat) (tb off n cap : Nat) (s : ByteArray) (w : World) (hc : w.cell? ⟨g, 1, none⟩ = some (.slice (some ⟨tb, off, none⟩) n cap)) (hj : j < n) (hn : n ≤ 9223372036854775807)
    (hs : w.cell? ⟨tb, off + j, none⟩ = some (.string s)) (hz : s.size ≤ 9223372036854775807) :
    Calls Tryd.prog 62 #[.pointer (some ⟨g, 0, none⟩), .agg #[.int .u8 op, .int .i64 j, .int .i64 b]] w fun e w' => e = .returned (.bool (textOk op s)) ∧ Below w.heap.size w w' := by
  have hg : g < w.heap.size := cell_lt hc
  have htb : tb < w.heap.size := cell_lt hs
  obtain ⟨r, hr⟩ : ∃ r, r = textOk op s := ⟨_, rfl⟩
  rw [← hr]
  unfold textOk at hr
  have HN := Lib.hid (fun w => name_any s w hz)
  have HD := Lib.hid (fun w => digits_any s w hz)
  have HC := Lib.hid (fun w => cut_any s w hz)
  by_cases h4 : op = 4
  · rw [if_pos h4] at hr
    have Hr := Lib.hid hr
    clear hr
    subst h4
    go_enter Tryd.func62, Tryd.ntmps62
    go_wp2
    go_quiet (fail)
    all_goals go_wp2
    all_goals go_quiet (fail)
    all_goals go_wp2_with (go_at_call 77; refine (HN.out _).mono ?_; rintro e w' ⟨rfl, hb⟩)
    all_goals go_ret
    all_goals exact ⟨ret_bool Hr.out.symm, below_tr (below_drewN (below_al (Below.refl _ _) _) _) (by assumption)⟩
  · rw [if_neg h4] at hr
    have e4 : (op == 4) = false := by simpa using h4
    by_cases h2 : op = 2
    · rw [if_pos h2] at hr
      have Hr := Lib.hid hr
      clear hr h4 e4
      subst h2
      go_enter Tryd.func62, Tryd.ntmps62
      go_wp2
      go_quiet (fail)
      all_goals go_wp2
      all_goals go_quiet (fail)
      all_goals go_wp2_with (go_at_call 78; refine (HD.out _).mono ?_; rintro e w' ⟨rfl, hb⟩)
      all_goals go_ret
      all_goals exact ⟨ret_bool Hr.out.symm, below_tr (below_drewN (below_al (Below.refl _ _) _) _) (by assumption)⟩
    · rw [if_neg h2] at hr
      have e2 : (op == 2) = false := by simpa using h2
      by_cases h3 : op = 3
      · rw [if_pos h3] at hr
        unfold decB at hr
        cases hok : (Lib.cut s.data.toList [46]).2.2
        all_goals
          simp only [hok, Bool.false_and, Bool.true_and] at hr
          have Hr := Lib.hid hr
          have Hok := Lib.hid hok
          clear hr h4 h2 e4 e2 hok
          subst h3
          go_enter Tryd.func62, Tryd.ntmps62
          go_wp2
          go_quiet (fail)
          all_goals go_wp2
          all_goals go_quiet (fail)
          all_goals go_wp2_with (go_at_call 79; refine (HC.out _).mono ?_; rintro e w' ⟨⟨x, y, rfl, hxy⟩, q, rfl⟩; rw [Hok.out]; have hzx : x.size ≤ 9223372036854775807 := Nat.le_trans hxy.2.2.1 hz; have hzy : y.size ≤ 9223372036854775807 := Nat.le_trans hxy.2.2.2 hz; have HX := Lib.hid (And.intro hxy.1 hxy.2.1); clear hxy)
        · go_ret
          exact ⟨ret_bool Hr.out.symm, below_drewN (below_al (Below.refl _ _) _) _⟩
        · obtain ⟨hx1, hy1⟩ := HX.out
          have hr2 := Hr.out
          rw [← hx1, ← hy1] at hr2
          have Hr2 := Lib.hid hr2
          clear Hr hr2 hx1 hy1 HX
          refine (digits_any x _ hzx).mono ?_
          rintro e w' ⟨rfl, hb1⟩
          cases hdx : digitsB x.data.toList
          all_goals
            have HDX := Lib.hid hdx
            clear hdx
            go_wp2_with (go_at_call 78; refine (digits_any _ _ (by assumption)).mono ?_; rintro e w'' ⟨rfl, hb2⟩)
            go_ret
            refine ⟨ret_bool (by rw [Hr2.out, HDX.out]; first | rfl | simp), ?_⟩
            first
              | exact below_tr (below_drewN (below_al (Below.refl _ _) _) _) hb1
              | exact below_tr (below_tr (below_drewN (below_al (Below.refl _ _) _) _) hb1) (by assumption)
      · rw [if_neg h3] at hr
        have e3 : (op == 3) = false := by simpa using h3
        have Hr := Lib.hid hr
        clear hr h4 h2 h3
        go_enter Tryd.func62, Tryd.ntmps62
        go_wp2
        go_quiet (fail)
        all_goals go_wp2
        all_goals go_quiet (fail)
        all_goals go_wp2
        all_goals go_ret
        all_goals exact ⟨ret_bool Hr.out.symm, below_drewN (below_al (Below.refl _ _) _) _⟩
/-- The instruction's text. -/
theorem named_any (g : Nat) (op b : Int) (j : Nat) (tv : Value) (texts : List ByteArray) (w : World) (hc : w.cell? ⟨g, 1, none⟩ = some tv) (ht : StrsAt w tv texts) :
    Calls Tryd.prog 62 #[.pointer (some ⟨g, 0, none⟩), .agg #[.int .u8 op, .int .i64 j, .int .i64 b]] w fun e w' => e = .returned (.bool (namedB texts op j)) ∧ Below w.heap.size w w' := by
  obtain ⟨A, cap, rfl, h1, h2, h3, h4⟩ := ht
  unfold namedB
  by_cases hj : j < texts.length
  · rw [if_neg (by omega)]
    obtain ⟨tb, off, rfl, hr⟩ := h4 (by omega)
    have := named_in g op b j tb off _ cap (texts.getD j ByteArray.empty) w hc hj h2 (hr j hj) (h3 _ (by rw [List.getD_eq_getElem?_getD, List.getElem?_eq_getElem hj]; exact List.getElem_mem hj))
    simpa using this
  · rw [if_pos (by omega)]
    exact named_out g op j b A _ cap w hc (by omega)
end Go.Proofs.YtkjhdgomkdemkaaDoor
