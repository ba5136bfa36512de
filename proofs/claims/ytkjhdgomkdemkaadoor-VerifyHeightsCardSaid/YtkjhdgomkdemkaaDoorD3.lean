import Derived.Test.YtkjhdgomkdemkaaDoorB11
import Derived.Test.YtkjhdgomkdemkaaDoorD2
/-! The way through a program. -/
namespace Go.Proofs.YtkjhdgomkdemkaaDoor
open Go.RowKit Go.Proofs.YtkjhdgomkdemkaaDoorW.PrintWords
set_option linter.unusedVariables false
set_option linter.unusedSimpArgs false
set_option maxRecDepth 100000
def oneS (p : Prog) (pend : Pend) (k : Nat) (st : List Int) : Option (List Int × List Int × Pend) :=
  match preS pend k st with
  | none => none
  | some (st1, pend1) => (stepS p k (p.code.getD k default) st1 pend1).map (fun q => (st1, q))
def combS (hs : List Int) (high : Int) : Except Nat (List Int × Int) → Except Nat (List Int × Int)
  | .error k => .error k
  | .ok (h, m) => .ok (hs ++ h, max high m)
theorem comb_id (p : Prog) (l : List Instr) (i : Nat) (st : List Int) (pend : Pend) : combS [] 0 (goS p l i st pend) = goS p l i st pend := by
  cases h : goS p l i st pend with
  | error k => rfl
  | ok q =>
    obtain ⟨hs, m⟩ := q
    have := (goS_at p l i st pend hs m h).2.1
    simp [combS]; omega
theorem go_none {p : Prog} {k : Nat} {st : List Int} {pend : Pend} (hk : k < p.code.length) (h : oneS p pend k st = none) : goS p (p.code.drop k) k st pend = .error k := by
  rw [List.drop_eq_getElem_cons hk, goS]
  unfold oneS at h
  have hx : p.code.getD k default = p.code[k] := by simp [List.getD_eq_getElem?_getD, hk]
  rw [hx] at h
  split at h
  · rename_i hp; rw [hp]
  · rename_i st1 pend1 hp
    rw [hp]
    simp only [Option.map_eq_none_iff] at h
    simp only [h]
theorem go_some {p : Prog} {k : Nat} {st st1 st2 : List Int} {pend pend2 : Pend} (hk : k < p.code.length) (h : oneS p pend k st = some (st1, st2, pend2)) (hs : List Int) (high : Int) :
    combS hs high (goS p (p.code.drop k) k st pend) = combS (hs ++ [(st1.length : Int)]) (max high st2.length) (goS p (p.code.drop (k + 1)) (k + 1) st2 pend2) ∧ st2.length ≤ st.length + 1 := by
  rw [List.drop_eq_getElem_cons hk, goS]
  unfold oneS at h
  have hx : p.code.getD k default = p.code[k] := by simp [List.getD_eq_getElem?_getD, hk]
  rw [hx] at h
  split at h
  · cases h
  · rename_i s1 p1 hp
    obtain ⟨q, hq, he⟩ := Option.map_eq_some_iff.1 h
    obtain ⟨s2, p2⟩ := q
    simp only [Prod.mk.injEq] at he
    obtain ⟨rfl, rfl, rfl⟩ := he
    rw [hp]
    simp only [hq]
    refine ⟨?_, ?_⟩
    · cases goS p (p.code.drop (k + 1)) (k + 1) s2 p2 with
      | error j => rfl
      | ok r =>
        obtain ⟨h', m⟩ := r
        simp only [combS, List.append_assoc, List.singleton_append, Except.ok.injEq, Prod.mk.injEq, true_and]
        omega
    · have h1 := (step_left hq).1.grow
      rw [(pre_some hp).1] at h1
      exact h1
theorem err_zero {p : Prog} (h : codeErr p = 0) : p.code.length ≤ 32768 ∧ p.texts.length ≤ 8192 ∧ rightB p.stack true = true ∧ (∀ x ∈ p.code, wrongB x = false) ∧ (p.kind = 1 ∨ p.kind = 2) := by
  unfold codeErr at h
  split at h
  · cases h
  · rename_i h1
    split at h
    · cases h
    · rename_i h2
      refine ⟨by omega, by omega, ?_, any_false ?_, by omega⟩
      · cases hr : rightB p.stack true with
        | true => rfl
        | false => exact absurd (.inr (.inl hr)) h2
      · cases ha : p.code.any wrongB with
        | false => rfl
        | true => exact absurd (.inr (.inr ha)) h2
theorem op_a {p : Prog} (h : codeErr p = 0) {k : Nat} (hk : k < p.code.length) : 1 ≤ (p.code.getD k default).op ∧ 0 ≤ (p.code.getD k default).a := by
  have hx : p.code.getD k default = p.code[k] := by simp [List.getD_eq_getElem?_getD, hk]
  rw [hx]
  have hw := (err_zero h).2.2.2.1 p.code[k] (List.getElem_mem hk)
  obtain ⟨h1, _, h2, _⟩ := wrong_right hw
  refine ⟨h1, ?_⟩
  unfold rightB at h2
  simp only [Bool.or_eq_true, Bool.and_eq_true, beq_iff_eq, decide_eq_true_eq] at h2
  omega
section
variable {w w' : World} {base g m : Nat} {kind : Int} {tv cv : Value} {stk : Int} {sv hv : Value} {n : Nat} {D : DataW Value} {st : List Int} {pend : Pend} {hs : List Int} {high : Int}
theorem step_any (h : CkInv w base g m kind tv cv stk sv hv n D st pend hs high) (k : Nat) (hbase : base ≤ w.heap.size) (hst : st.length ≤ 1000000) (hhs : hs.length ≤ 1000000) (p : Prog) (hk : k < p.code.length) (hlen : p.code.length ≤ 1000000) (hn : n ≤ 1000000)
    (hP : ∀ w', Fr base g m w w' → StrsAt w' tv p.texts ∧ InstrsAt w' cv p.code) (hkind : kind = p.kind) (hstk : stk = p.stack) (hop : 1 ≤ (p.code.getD k default).op ∧ 0 ≤ (p.code.getD k default).a) :
    Calls Tryd.prog 35 #[.pointer (some ⟨g, 0, none⟩), .int .i64 k, .bool true] w (NumOut base g m kind tv cv stk n hs high (oneS p pend k st) w) := by
  cases hpre : preS pend k st with
  | none =>
    refine (step_bad h k (by omega) hpre).mono ?_
    rintro e w' ⟨rfl, hf⟩
    have : oneS p pend k st = none := by unfold oneS; rw [hpre]
    rw [this]
    exact ⟨rfl, hf⟩
  | some q =>
    obtain ⟨st1, pend1⟩ := q
    have : oneS p pend k st = (stepS p k (p.code.getD k default) st1 pend1).map (fun q => (st1, q)) := by unfold oneS; rw [hpre]
    exact step_some h k hbase hst hhs p hk hlen hn hP st1 pend1 hpre hkind hstk hop _ this
end
def WalkOut (p : Prog) (w : World) (e : Ending) (w' : World) : Prop :=
  ∃ hv, e = .returned (.tuple #[hv, .int .i64 (walkS p).2.1, .int .i64 (walkS p).2.2]) ∧ Kd.R (Kd.int .i64) 3 w' w.heap.size (fun _ => True) hv (walkS p).1 ∧ Below w.heap.size w w'
theorem walk_nil {p : Prog} {w w' : World} {e : Ending} {at_ er : Int} (hr : walkS p = ([], at_, er)) (he : e = .returned (.tuple #[.slice none 0 0, .int .i64 at_, .int .i64 er])) (hb : Below w.heap.size w w') : WalkOut p w e w' :=
  ⟨_, by rw [hr]; exact he, by rw [hr]; exact Kd.R_nil _ _ _ _ _, hb⟩
theorem walk_fin {p : Prog} {w w' : World} {e : Ending} {hs : List Int} {hv : Value} {base : Nat} (hr : walkS p = (hs, 0, 0)) (he : e = .returned (.tuple #[hv, .int .i64 0, .int .i64 0])) (hrow : Row w' base 3 hv hs) (hbs : w.heap.size ≤ base) (hb : Below w.heap.size w w') : WalkOut p w e w' :=
  ⟨hv, by rw [hr]; exact he, by rw [hr]; exact Kd.R_lower (Kd.R_of_own hrow (fun _ _ => trivial)) hbs, hb⟩
theorem Row.kd {w : World} {base b : Nat} {v : Value} {l : List Int} (h : Row w base 3 v l) (hb : b ≤ base) : Kd.R (Kd.int .i64) 3 w b (fun _ => True) v l :=
  Kd.R_lower (Kd.R_of_own h (fun _ _ => trivial)) hb
/-- Where the way through a program stands ahead of an instruction. -/
def WayAt (p : Prog) (base : Nat) (tv cv : Value) (w0 : World) (k : Nat) (w : World) (sv hv : Value) (D : DataW Value) (st : List Int) (pend : Pend) (hs : List Int) (high : Int) : Prop :=
  CkInv w base (base + 1) base p.kind tv cv p.stack sv hv k D st pend hs high ∧ Fr base (base + 1) base w0 w ∧ st.length ≤ k ∧ hs.length ≤ k ∧
    goS p p.code 0 [] (fun _ => none) = combS hs high (goS p (p.code.drop k) k st pend) ∧ 0 ≤ high
theorem way_step {p : Prog} {base : Nat} {tv cv : Value} {w0 w w' : World} {k : Nat} {sv hv : Value} {D : DataW Value} {st : List Int} {pend : Pend} {hs : List Int} {high : Int} (h : WayAt p base tv cv w0 k w sv hv D st pend hs high) (hk : k < p.code.length) {q : List Int × List Int × Pend} (hq : oneS p pend k st = some q) {e : Ending}
    (ho : NumOut base (base + 1) base p.kind tv cv p.stack k hs high (oneS p pend k st) w e w') : e = .returned (.bool true) ∧ ∃ sv' hv' D' st' pend' hs' high', Hid (WayAt p base tv cv w0 (k + 1) w' sv' hv' D' st' pend' hs' high') := by
  obtain ⟨st1, st2, pend2⟩ := q
  rw [hq] at ho
  obtain ⟨he, ⟨sv', hv', D', hc⟩, hf⟩ := ho
  obtain ⟨h1, h2, h3, h4, h5, h6⟩ := h
  obtain ⟨g1, g2⟩ := go_some hk hq hs high
  exact ⟨he, sv', hv', D', st2, pend2, _, _, Lib.hid ⟨hc, h2.trans hf, by omega, by simp; omega, h5.trans g1, by omega⟩⟩
theorem way_stop {p : Prog} {base : Nat} {tv cv : Value} {w0 w w' : World} {k : Nat} {sv hv : Value} {D : DataW Value} {st : List Int} {pend : Pend} {hs : List Int} {high : Int} (h : WayAt p base tv cv w0 k w sv hv D st pend hs high) (hk : k < p.code.length) (hq : oneS p pend k st = none) {e : Ending}
    (ho : NumOut base (base + 1) base p.kind tv cv p.stack k hs high (oneS p pend k st) w e w') : e = .returned (.bool false) ∧ Hid (goS p p.code 0 [] (fun _ => none) = .error k ∧ Fr base (base + 1) base w0 w') := by
  rw [hq] at ho
  obtain ⟨he, hf⟩ := ho
  obtain ⟨h1, h2, h3, h4, h5, h6⟩ := h
  refine ⟨he, Lib.hid ⟨?_, h2.trans hf⟩⟩
  rw [h5, go_none hk hq]
  rfl
theorem way_end {p : Prog} {base : Nat} {tv cv : Value} {w0 w : World} {k : Nat} {sv hv : Value} {D : DataW Value} {st : List Int} {pend : Pend} {hs : List Int} {high : Int} (h : WayAt p base tv cv w0 k w sv hv D st pend hs high) (hk : k = p.code.length) :
    goS p p.code 0 [] (fun _ => none) = .ok (hs, high) := by
  obtain ⟨h1, h2, h3, h4, h5, h6⟩ := h
  rw [h5, hk, List.drop_length, goS, combS, List.append_nil]
  congr 2
  omega
theorem way_begin {p : Prog} {tv cv : Value} {w0 : World} : WayAt p w0.heap.size tv cv w0 0 ((w0.alloc (.map #[] 0)).alloc (.cells #[.int .u8 p.kind, tv, cv, .int .i64 p.stack, .slice none 0 0, .map (some w0.heap.size), .slice none 0 0, .int .i64 0] 65)) (.slice none 0 0) (.slice none 0 0) (.map []) [] (fun _ => none) [] 0 := by
  refine ⟨⟨?_, by omega, Nat.le_refl _, Row.nil _ _ _, Row.nil _ _ _, ?_, ?_, fun k v hv => ?_, fun _ _ => rfl, .inl rfl, fun k v hv => ?_, fun k k' v v' _ hv => ?_⟩, (Fr.alloc ..).trans (Fr.alloc ..), by simp, by simp, (comb_id ..).symm, by omega⟩
  · have := heap_alloc_new (w0.alloc (.map #[] 0)) (.cells #[.int .u8 p.kind, tv, cv, .int .i64 p.stack, .slice none 0 0, .map (some w0.heap.size), .slice none 0 0, .int .i64 0] 65)
    rw [show (w0.alloc (.map #[] 0)).heap.size = w0.heap.size + 1 by simp] at this
    exact this
  · obtain ⟨es, clock, h1, h2⟩ := World.ownsMap_made w0 Tryd.prog 3 heldR
    exact ⟨es, clock, (heap_alloc_old _ _ (by simp)).trans h1, h2⟩
  · exact Maps.isMap_empty
  · rw [mget_empty] at hv; cases hv
  · rw [mget_empty] at hv; cases hv
  · rw [mget_empty] at hv; cases hv
def WayK (p : Prog) (tv cv : Value) (w0 : World) (k : Nat) (w : World) : Prop := ∃ sv hv D st pend hs high, WayAt p w0.heap.size tv cv w0 k w sv hv D st pend hs high
def GoErr (p : Prog) (k : Nat) : Prop := goS p p.code 0 [] (fun _ => none) = .error k
/-- One instruction, from where the way stands. -/
theorem way_one {p : Prog} {tv cv : Value} {w w0 wx : World} {k : Nat} (hw : WayK p tv cv w0 k wx) (hk : k < p.code.length) (he : codeErr p = 0) (hP : PrAt w0 p tv cv) :
    Calls Tryd.prog 35 #[.pointer (some ⟨w0.heap.size + 1, 0, none⟩), .int .i64 k, .bool true] wx (fun e w' => e = .returned (.bool true) ∧ Hid (WayK p tv cv w0 (k + 1) w')) ∨
    Calls Tryd.prog 35 #[.pointer (some ⟨w0.heap.size + 1, 0, none⟩), .int .i64 k, .bool true] wx (fun e w' => e = .returned (.bool false) ∧ Hid (GoErr p k ∧ Below w0.heap.size w0 w')) := by
  obtain ⟨sv, hv, D, st, pend, hs, high, h⟩ := hw
  have hl := (err_zero he).1
  have hs1 := step_any h.1 k h.2.1.size (by have := h.2.2.1; omega) (by have := h.2.2.2.1; omega) p hk (by omega) (by omega)
    (fun w' hf => hP.below ((h.2.1.trans hf).below (Nat.le_refl _))) rfl rfl (op_a he hk)
  cases hq : oneS p pend k st with
  | none =>
    refine .inr (hs1.mono ?_)
    intro e w' ho
    obtain ⟨h1, h2⟩ := way_stop h hk hq ho
    exact ⟨h1, Lib.hid ⟨h2.out.1, h2.out.2.below (Nat.le_refl _)⟩⟩
  | some q =>
    refine .inl (hs1.mono ?_)
    intro e w' ho
    obtain ⟨h1, sv', hv', D', st', pend', hs', high', h2⟩ := way_step h hk hq ho
    exact ⟨h1, Lib.hid ⟨sv', hv', D', st', pend', hs', high', h2.out⟩⟩
theorem walk_err {p : Prog} (he : codeErr p = 0) (hl : ¬ (p.kind = 1 ∧ 1024 < p.stack)) {k : Nat} (h : GoErr p k) : walkS p = ([], (k : Int), 230) := by
  unfold walkS GoErr at *
  rw [if_neg (by rw [he]; decide), if_neg hl, h]
theorem walk_end {p : Prog} (he : codeErr p = 0) (hl : ¬ (p.kind = 1 ∧ 1024 < p.stack)) {hs : List Int} {high : Int} (h : goS p p.code 0 [] (fun _ => none) = .ok (hs, high)) : walkS p = if p.code = [] ∨ high ≠ p.stack then ([], (p.code.length : Int), 230) else (hs, 0, 0) := by
  unfold walkS
  rw [if_neg (by rw [he]; decide), if_neg hl, h]
set_option maxHeartbeats 4000000 in
theorem walk_any (p : Prog) (tv cv : Value) (w : World) (h : PrAt w p tv cv) :
    Calls Tryd.prog 20 #[.agg #[.int .u8 p.kind, tv, cv, .int .i64 p.stack]] w (WalkOut p w) := by
  have HB : Hid (Below w.heap.size w (w.alloc (.cells #[.int .u8 p.kind, tv, cv, .int .i64 p.stack] 30))) := Lib.hid (below_al (Below.refl _ _) _)
  have HE := Lib.hid (check_any p tv cv _ (h.below HB.out))
  have H := Lib.hid h
  obtain ⟨tA, tc, rfl, -, ht2, -, -⟩ := h.1
  obtain ⟨cA, cc, rfl, -, hc2, -⟩ := h.2
  obtain ⟨cn, hcn⟩ : ∃ cn, cn = p.code.length := ⟨_, rfl⟩
  obtain ⟨tn, htn⟩ : ∃ tn, tn = p.texts.length := ⟨_, rfl⟩
  rw [← hcn] at H HE HB hc2 ⊢
  rw [← htn] at H HE HB ht2 ⊢
  have HC := Lib.hid hcn
  obtain ⟨kind, hkd⟩ : ∃ kind, kind = p.kind := ⟨_, rfl⟩
  obtain ⟨stack, hst⟩ : ∃ stack, stack = p.stack := ⟨_, rfl⟩
  rw [← hkd, ← hst] at HE HB ⊢
  have HK := Lib.hid hkd
  have HS := Lib.hid hst
  obtain ⟨er, her⟩ : ∃ er, er = codeErr p := ⟨_, rfl⟩
  rw [← her] at HE
  have HEr := Lib.hid her.symm
  clear h hcn htn hkd hst her
  by_cases h0 : er = 0
  · subst h0
    by_cases hlim : kind = 1 ∧ 1024 < stack
    · obtain ⟨rfl, hs1⟩ := hlim
      have hr : Hid (walkS p = ([], 0, 3)) := Lib.hid (by unfold walkS; rw [if_neg (by rw [HEr.out]; decide), if_pos ⟨HK.out.symm, by rw [← HS.out]; exact hs1⟩])
      go_enter Tryd.func20, Tryd.ntmps20
      go_wp2_with (go_at_call 16; refine (HE.out).mono ?_; rintro e w2 ⟨rfl, hb2⟩; have b0 := cell_below hb2 (a := ⟨w.heap.size, 0, none⟩) (by simp; rfl); have b1 := cell_below hb2 (a := ⟨w.heap.size, 1, none⟩) (by simp; rfl); have b2 := cell_below hb2 (a := ⟨w.heap.size, 2, none⟩) (by simp; rfl); have b3 := cell_below hb2 (a := ⟨w.heap.size, 3, none⟩) (by simp; rfl); have HB2 := Lib.hid (below_tr HB.out hb2); have hz : w.heap.size < w2.heap.size := (by have := hb2.size; simp at this; omega); clear hb2)
      go_ret3
      exact walk_nil hr.out rfl HB2.out
    · have HL : Hid (¬ (p.kind = 1 ∧ 1024 < p.stack)) := Lib.hid (by rw [← HK.out, ← HS.out]; exact hlim)
      have hlim' : (kind = 1 ∧ stack ≤ 1024) ∨ (kind == 1) = false := by
        by_cases h1 : kind = 1
        · exact .inl ⟨h1, by omega⟩
        · exact .inr (by simpa using h1)
      clear hlim
      rcases hlim' with ⟨rfl, hlim⟩ | hlim
      all_goals
        have hmm := @run_makeMap Tryd.prog
        go_enter Tryd.func20, Tryd.ntmps20
        go_wp2_with (go_at_call 16; refine (HE.out).mono ?_; rintro e w2 ⟨rfl, hb2⟩; have b0 := cell_below hb2 (a := ⟨w.heap.size, 0, none⟩) (by simp; rfl); have b1 := cell_below hb2 (a := ⟨w.heap.size, 1, none⟩) (by simp; rfl); have b2 := cell_below hb2 (a := ⟨w.heap.size, 2, none⟩) (by simp; rfl); have b3 := cell_below hb2 (a := ⟨w.heap.size, 3, none⟩) (by simp; rfl); have HB2 := Lib.hid (below_tr HB.out hb2); have hz : w.heap.size < w2.heap.size := (by have := hb2.size; simp at this; omega); clear hb2)
        have HP2 : Hid (PrAt w2 p (.slice tA tn tc) (.slice cA cn cc)) := Lib.hid (H.out.below HB2.out)
        have HW0 : Hid (WayK p (.slice tA tn tc) (.slice cA cn cc) w2 0 _) := Lib.hid ⟨_, _, _, _, _, _, _, way_begin⟩
        rw [← HK.out, ← HS.out] at HW0
        go_loopw [28] (fun i wx => ∃ k : Nat, k ≤ cn ∧ i = .int .i64 k ∧ Hid (WayK p (.slice tA tn tc) (.slice cA cn cc) w2 k wx)) (fun i _ => cn - (intOf i).toNat)
        case atStart => exact ⟨0, Nat.zero_le _, rfl, HW0⟩
        case round =>
          clear HW0
          obtain ⟨k, hk, rfl, hs⟩ := hrel
          by_cases hlt : k < cn
          · have hone := way_one (w := w) hs.out (by rw [← HC.out]; exact hlt) HEr.out HP2.out
            rcases hone with hone | hone
            · have HO := Lib.hid hone
              clear hone
              go_wp2_with (go_at_call 35; refine (HO.out).mono ?_; rintro e w3 ⟨rfl, hw3⟩)
              go_roundw
              case rel => exact ⟨k + 1, by omega, by go_num, hw3⟩
              case measure => simp [intOf]; omega
            · have HO := Lib.hid hone
              clear hone
              go_wp2_with (go_at_call 35; refine (HO.out).mono ?_; rintro e w3 ⟨rfl, hw3⟩)
              go_ret3
              exact walk_nil (walk_err HEr.out HL.out hw3.out.1) rfl (below_tr HB2.out hw3.out.2)
          · obtain rfl : k = cn := by omega
            obtain ⟨sv, hv, D, st, pend, hs', high, hway⟩ := hs.out
            have hend := walk_end HEr.out HL.out (way_end hway HC.out)
            rw [← HC.out, ← HS.out] at hend
            have Hend := Lib.hid hend
            obtain ⟨hck, hfr, -, -, -, -⟩ := hway
            obtain ⟨-, -, -, -, -, -, d6, d7⟩ := hck.cell
            have hbx := hfr.below (Nat.le_refl _)
            have e2 := (hbx.cell (p := ⟨w.heap.size, 2, none⟩) hz).trans b2
            have e3 := (hbx.cell (p := ⟨w.heap.size, 3, none⟩) hz).trans b3
            have Hrow := Lib.hid (And.intro hck.heights (below_tr HB2.out hbx))
            have HLs := Lib.hid (And.intro HC.out HB2.out.size)
            clear hend hck hfr hbx hs b0 b1 b2 b3 hmm HP2 H HE HB HC
            by_cases hk0 : k = 0
            · have hk0' : ((k : Int) == 0) = true := by rw [hk0]; rfl
              have hr : Hid (walkS p = ([], (k : Int), 230)) := Lib.hid (by rw [Hend.out, if_pos (.inl (List.eq_nil_of_length_eq_zero (by rw [← HLs.out.1, hk0])))])
              clear Hend hk0
              go_wp2
              go_quiet (fail)
              all_goals go_wp2
              all_goals go_quiet (fail)
              all_goals go_wp2
              all_goals go_ret3
              all_goals exact walk_nil hr.out rfl (below_drewN (below_drewN Hrow.out.2 _) _)
            · have hk0' : ((k : Int) == 0) = false := by rw [beq_eq_false_iff_ne]; omega
              have hne : Hid (p.code ≠ []) := Lib.hid (fun e => hk0 (by rw [HLs.out.1, e]; rfl))
              by_cases hh : high = stack
              · have hh' : (high != stack) = false := by simpa using hh
                have hr : Hid (walkS p = (hs', 0, 0)) := Lib.hid (by rw [Hend.out, if_neg (by intro h; rcases h with h | h; exact hne.out h; exact h hh)])
                clear Hend hk0 hh
                go_wp2
                go_quiet (fail)
                all_goals go_wp2
                all_goals go_ret3
                all_goals exact walk_fin hr.out rfl (Hrow.out.1.kept (fun _ _ => rfl)) HLs.out.2 (below_drewN Hrow.out.2 _)
              · have hh' : (high != stack) = true := by simpa using hh
                have hr : Hid (walkS p = ([], (k : Int), 230)) := Lib.hid (by rw [Hend.out, if_pos (.inr hh)])
                clear Hend hk0 hh
                go_wp2
                go_quiet (fail)
                all_goals go_wp2
                all_goals go_quiet (fail)
                all_goals go_wp2
                all_goals go_ret3
                all_goals exact walk_nil hr.out rfl (below_drewN (below_drewN Hrow.out.2 _) _)
  · have h0' : (er != 0) = true := by simpa using h0
    have hr : Hid (walkS p = ([], 0, er)) := Lib.hid (by unfold walkS; rw [if_pos (by rw [HEr.out]; exact h0), HEr.out])
    clear h0
    go_enter Tryd.func20, Tryd.ntmps20
    go_wp2_with (go_at_call 16; refine (HE.out).mono ?_; rintro e w2 ⟨rfl, hb2⟩; have b0 := cell_below hb2 (a := ⟨w.heap.size, 0, none⟩) (by simp; rfl); have b1 := cell_below hb2 (a := ⟨w.heap.size, 1, none⟩) (by simp; rfl); have b2 := cell_below hb2 (a := ⟨w.heap.size, 2, none⟩) (by simp; rfl); have b3 := cell_below hb2 (a := ⟨w.heap.size, 3, none⟩) (by simp; rfl); have HB2 := Lib.hid (below_tr HB.out hb2); have hz : w.heap.size < w2.heap.size := (by have := hb2.size; simp at this; omega); clear hb2)
    go_ret3
    exact walk_nil hr.out rfl HB2.out
theorem vCheck_any (p : Prog) (tv cv : Value) (w : World) (h : PrAt w p tv cv) :
    Calls Tryd.prog 12 #[.agg #[.int .u8 p.kind, tv, cv, .int .i64 p.stack]] w fun e w' => e = .returned (.tuple #[.int .i64 (walkS p).2.1, .int .i64 (walkS p).2.2]) ∧ Below w.heap.size w w' := by
  have HB : Hid (Below w.heap.size w (w.alloc (.cells #[.int .u8 p.kind, tv, cv, .int .i64 p.stack] 30))) := Lib.hid (below_al (Below.refl _ _) _)
  have HE := Lib.hid (walk_any p tv cv _ (h.below HB.out))
  obtain ⟨tA, tc, rfl, -, -, -, -⟩ := h.1
  obtain ⟨cA, cc, rfl, -, -, -⟩ := h.2
  clear h
  go_enter Tryd.func12, Tryd.ntmps12
  go_wp2_with (go_at_call 20; refine (HE.out).mono ?_; rintro e w2 ⟨hv, rfl, -, hb2⟩; have HB2 := Lib.hid (below_tr HB.out hb2); clear hb2)
  go_ret2
  exact ⟨rfl, HB2.out⟩
theorem vHeights_any (p : Prog) (tv cv : Value) (w : World) (h : PrAt w p tv cv) :
    Calls Tryd.prog 9 #[.agg #[.int .u8 p.kind, tv, cv, .int .i64 p.stack]] w fun e w' => ∃ hv, e = .returned (.tuple #[hv, .int .i64 (walkS p).2.2]) ∧ Kd.R (Kd.int .i64) 3 w' w.heap.size (fun _ => True) hv (walkS p).1 ∧ Below w.heap.size w w' := by
  have HB : Hid (Below w.heap.size w (w.alloc (.cells #[.int .u8 p.kind, tv, cv, .int .i64 p.stack] 30))) := Lib.hid (below_al (Below.refl _ _) _)
  have HE := Lib.hid (walk_any p tv cv _ (h.below HB.out))
  obtain ⟨tA, tc, rfl, -, -, -, -⟩ := h.1
  obtain ⟨cA, cc, rfl, -, -, -⟩ := h.2
  clear h
  go_enter Tryd.func9, Tryd.ntmps9
  go_wp2_with (go_at_call 20; refine (HE.out).mono ?_; rintro e w2 ⟨hv, rfl, hR, hb2⟩; have HR := Lib.hid hR; have HB2 := Lib.hid (below_tr HB.out hb2); clear hb2 hR)
  go_ret2
  exact ⟨hv, rfl, Kd.R_lower HR.out HB.out.size, HB2.out⟩
theorem vHighest_any (p : Prog) (tv cv : Value) (w : World) (h : PrAt w p tv cv) :
    Calls Tryd.prog 14 #[.agg #[.int .u8 p.kind, tv, cv, .int .i64 p.stack]] w fun e w' => e = .returned (.tuple #[.int .i64 (if (walkS p).2.2 = 0 then p.stack else 0), .int .i64 (walkS p).2.2]) ∧ Below w.heap.size w w' := by
  have HB : Hid (Below w.heap.size w (w.alloc (.cells #[.int .u8 p.kind, tv, cv, .int .i64 p.stack] 30))) := Lib.hid (below_al (Below.refl _ _) _)
  have HE := Lib.hid (walk_any p tv cv _ (h.below HB.out))
  obtain ⟨tA, tc, rfl, -, -, -, -⟩ := h.1
  obtain ⟨cA, cc, rfl, -, -, -⟩ := h.2
  clear h
  unfold WalkOut at HE
  obtain ⟨er, her⟩ : ∃ er, er = (walkS p).2.2 := ⟨_, rfl⟩
  rw [← her] at HE ⊢
  clear her
  by_cases h0 : er = 0
  · subst h0
    go_enter Tryd.func14, Tryd.ntmps14
    go_wp2_with (go_at_call 20; refine (HE.out).mono ?_; rintro e w2 ⟨hv, rfl, -, hb2⟩; have b3 := cell_below hb2 (a := ⟨w.heap.size, 3, none⟩) (by simp; rfl); have HB2 := Lib.hid (below_tr HB.out hb2); clear hb2)
    go_ret2
    exact ⟨rfl, HB2.out⟩
  · have h1 : (er != 0) = true := by simpa using h0
    rw [if_neg h0]
    go_enter Tryd.func14, Tryd.ntmps14
    go_wp2_with (go_at_call 20; refine (HE.out).mono ?_; rintro e w2 ⟨hv, rfl, -, hb2⟩; have HB2 := Lib.hid (below_tr HB.out hb2); clear hb2)
    go_ret2
    exact ⟨rfl, HB2.out⟩
end Go.Proofs.YtkjhdgomkdemkaaDoor
