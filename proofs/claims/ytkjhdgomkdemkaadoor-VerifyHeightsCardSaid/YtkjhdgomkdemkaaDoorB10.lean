import Derived.Test.YtkjhdgomkdemkaaDoorB9
import Derived.Test.YtkjhdgomkdemkaaDoorC1
import Derived.BigRegion
/-! The instruction of a number. -/
namespace Go.Proofs.YtkjhdgomkdemkaaDoor
open Go.RowKit
set_option linter.unusedVariables false
set_option linter.unusedSimpArgs false
set_option maxRecDepth 100000
section
variable {w w' : World} {base g m : Nat} {kind : Int} {tv cv : Value} {stk : Int} {sv hv : Value} {n : Nat} {D : DataW Value} {st : List Int} {pend : Pend} {hs : List Int} {high : Int}
/-- What the instruction of a number comes to. -/
def NumOut (base g m : Nat) (kind : Int) (tv cv : Value) (stk : Int) (n : Nat) (hs : List Int) (high : Int) (r : Option (List Int × List Int × Pend)) (w : World) (e : Ending) (w' : World) : Prop :=
  match r with
  | none => e = .returned (.bool false) ∧ Fr base g m w w'
  | some (st1, st2, pend2) => e = .returned (.bool true) ∧ CkAt w' base g m kind tv cv stk (n + 1) st2 pend2 (hs ++ [(st1.length : Int)]) (max high st2.length) ∧ Fr base g m w w'
theorem CkInv.frx {wx : World} (h : CkInv wx base g m kind tv cv stk sv hv n D st pend hs high) (hf : Fr base g m w wx) : wx.cell? ⟨g, 4, none⟩ = some sv := h.cell.2.2.2.2.1
/-- The first part's end: the stack taken over. -/
def PreAt (base g m : Nat) (kind : Int) (tv cv : Value) (stk : Int) (n : Nat) (st : List Int) (pend : Pend) (hs : List Int) (high : Int) (w wx : World) : Prop :=
  CkAt wx base g m kind tv cv stk n st pend hs high ∧ Fr base g m w wx
theorem pre_same (h : CkInv w base g m kind tv cv stk sv hv n D st pend hs high) {k : Nat} {st1 : List Int} {pend1 : Pend} (hm : mget D (.int .i64 k) = none) (hpre : preS pend k st = some (st1, pend1)) : PreAt base g m kind tv cv stk n st1 pend1 hs high w w := by
  have hp := h.none_ _ hm
  unfold preS at hpre
  rw [hp] at hpre
  injection hpre with e
  injection e with e1 e2
  subst e1 e2
  exact ⟨⟨_, _, _, h⟩, Fr.refl ..⟩
theorem pre_take (h : CkInv w base g m kind tv cv stk sv hv n D st pend hs high) {k : Nat} {st1 : List Int} {pend1 : Pend} {v : Value} {t : List Int} (hm : mget D (.int .i64 k) = some v) (ht : pend k = some t) (hpre : preS pend k st = some (st1, pend1)) (q : Nat) {w1 : World}
    (hown : w1.ownsMap Tryd.prog 3 heldR m n (D.del (.int .i64 k))) (hg : ((w.drewN q).setCell ⟨g, 4, none⟩ v).mapTurned w1 m) : PreAt base g m kind tv cv stk n st1 pend1 hs high w w1 := by
  unfold preS at hpre
  rw [ht] at hpre
  simp only at hpre
  split at hpre
  · injection hpre with e
    injection e with e1 e2
    subst e1 e2
    exact ⟨⟨_, _, _, (h.drewN q).take hm ht hown hg.grown⟩, ((Fr.drewN base g m w q).trans (Fr.setG _ 4 v h.hb)).trans (Fr.grownM hg.grown h.hm)⟩
  · cases hpre
theorem pre_ok {pend : Pend} {k : Int} {st st1 : List Int} {pend1 : Pend} {t : List Int} (ht : pend k = some t) (hpre : preS pend k st = some (st1, pend1)) : t = st ∧ (t.length = 1 → t.getD 0 0 ≠ 0) := by
  unfold preS at hpre
  rw [ht] at hpre
  simp only at hpre
  split at hpre
  · rename_i h
    refine ⟨h.1, fun hl h0 => h.2 ?_⟩
    match t, hl, h0 with
    | [x], _, h0 => simp at h0; rw [h0]
  · cases hpre
theorem mid_none {W W3 : World} {r0 : Option (List Int × Pend)} (hr0 : r0 = none) {e : Ending} (h : StepOut base g m kind tv cv stk n hs high r0 W e W3) :
    e = .returned (.bool false) ∧ ∃ A3 L3 cap3, W3.cell? ⟨g, 4, none⟩ = some (.slice A3 L3 cap3) ∧ W3.cell? ⟨g, 7, none⟩ = some (.int .i64 high) ∧ W3.frozen? ⟨g, 7, none⟩ = false ∧ g < W3.heap.size ∧ Hid (Fr base g m W W3) ∧ base ≤ g := by
  subst hr0
  obtain ⟨h1, h2, st', pend', sv', hv', D', H⟩ := h
  obtain ⟨A, cap, rfl, _, _⟩ := H.stack.slice
  exact ⟨h1, A, _, cap, H.cell.2.2.2.2.1, H.cell.2.2.2.2.2.2.2, H.frozen 7, cell_lt H.cell.2.2.2.2.1, Lib.hid h2, H.hb⟩
theorem mid_some {W W3 : World} {r0 : Option (List Int × Pend)} {st2 : List Int} {pend2 : Pend} (hr0 : r0 = some (st2, pend2)) {e : Ending} (h : StepOut base g m kind tv cv stk n hs high r0 W e W3) {L3 : Nat} (hL3 : L3 = st2.length) :
    e = .returned (.bool true) ∧ ∃ A3 cap3 hv3 D3, W3.cell? ⟨g, 4, none⟩ = some (.slice A3 L3 cap3) ∧ W3.cell? ⟨g, 7, none⟩ = some (.int .i64 high) ∧ W3.cell? ⟨g, 3, none⟩ = some (.int .i64 stk) ∧ W3.frozen? ⟨g, 7, none⟩ = false ∧ g < W3.heap.size ∧ Hid (Fr base g m W W3) ∧ base ≤ g ∧
      Hid (CkInv W3 base g m kind tv cv stk (.slice A3 st2.length cap3) hv3 (n + 1) D3 st2 pend2 hs high) := by
  subst hr0 hL3
  obtain ⟨h1, ⟨sv', hv', D', H⟩, h2⟩ := h
  obtain ⟨A, cap, rfl, _, _⟩ := H.stack.slice
  exact ⟨h1, A, cap, hv', D', H.cell.2.2.2.2.1, H.cell.2.2.2.2.2.2.2, H.cell.2.2.2.1, H.frozen 7, cell_lt H.cell.2.2.2.2.1, Lib.hid h2, H.hb, Lib.hid H⟩
theorem pre_st {pend : Pend} {k : Int} {st st1 : List Int} {pend1 : Pend} (hpre : preS pend k st = some (st1, pend1)) : st1 = st := by
  unfold preS at hpre
  split at hpre
  · split at hpre
    · rename_i h
      injection hpre with e
      injection e with e1 _
      rw [← e1, h.1]
    · cases hpre
  · injection hpre with e
    injection e with e1 _
    exact e1.symm
theorem far7 {W : World} {g : Nat} {u v : Value} (h : W.cell? ⟨g, 4, none⟩ = some v) : ((W.setCell ⟨g, 7, none⟩ u).drew).cell? ⟨g, 4, none⟩ = some v := by
  have : (W.setCell ⟨g, 7, none⟩ u).cell? ⟨g, 4, none⟩ = some v := (World.cell?_setCell_other (w := W) (a := ⟨g, 7, none⟩) (b := ⟨g, 4, none⟩) (v := u) (fun e => by cases e)).trans h
  exact this
theorem Fr.ofHeap {W W' : World} (h1 : W'.os = W.os) (h2 : W'.tape = W.tape) (h3 : W'.output = W.output) (h4 : W'.heap = W.heap) : Fr base g m W W' :=
  ⟨h1, h2, h3, by rw [h4]; exact Nat.le_refl _, fun _ _ _ => by rw [h4], fun _ _ _ _ _ _ _ _ => by rw [h4]⟩
theorem num_none {r : Option (List Int × List Int × Pend)} {e : Ending} (hr : r = none) (he : e = .returned (.bool false)) (hf : Fr base g m w w') : NumOut base g m kind tv cv stk n hs high r w e w' := by
  subst hr; exact ⟨he, hf⟩
theorem num_some {r : Option (List Int × List Int × Pend)} {e : Ending} {st1 st2 : List Int} {pend2 : Pend} {W : World} {sv' hv' : Value} {D' : DataW Value} {SL L3 : Nat} {cv' : Value} (hr : r = some (st1, st2, pend2)) (he : e = .returned (.bool true))
    (hc : CkInv W base g m kind tv cv' stk sv' hv' (n + 1) D' st2 pend2 (hs ++ [(SL : Int)]) (max high L3)) (hh : w'.heap = W.heap) (hSL : st1.length = SL) (hL3 : L3 = st2.length) (hf : Fr base g m w w') (hcv : cv' = cv) : NumOut base g m kind tv cv stk n hs high r w e w' := by
  subst hr hSL hL3 hcv
  exact ⟨he, ⟨_, _, _, hc.move (fun k _ _ => by rw [hh])⟩, hf⟩
theorem Hid.map {a b : Prop} (h : Hid a) (f : a → b) : Hid b := Lib.hid (f h.out)
set_option maxHeartbeats 8000000 in
theorem step_some (h : CkInv w base g m kind tv cv stk sv hv n D st pend hs high) (k : Nat) (hbase : base ≤ w.heap.size) (hst : st.length ≤ 1000000) (hhs : hs.length ≤ 1000000) (p : Prog) (hk : k < p.code.length) (hlen : p.code.length ≤ 1000000) (hn : n ≤ 1000000)
    (hP : ∀ w', Fr base g m w w' → StrsAt w' tv p.texts ∧ InstrsAt w' cv p.code) (st1 : List Int) (pend1 : Pend) (hpre : preS pend k st = some (st1, pend1)) (hkind : kind = p.kind) (hstk : stk = p.stack) (hop : 1 ≤ (p.code.getD k default).op ∧ 0 ≤ (p.code.getD k default).a)
    (r : Option (List Int × List Int × Pend)) (hr : r = (stepS p k (p.code.getD k default) st1 pend1).map (fun q => (st1, q))) :
    Calls Tryd.prog 35 #[.pointer (some ⟨g, 0, none⟩), .int .i64 k, .bool true] w (NumOut base g m kind tv cv stk n hs high r w) := by
  have HPre := Lib.hid hpre
  have HP := Lib.hid hP
  have Hop := Lib.hid hop
  have Hr := Lib.hid hr
  have H := Lib.hid h
  obtain ⟨c0, c1, c2, c3, c4, c5, c6, c7⟩ := h.cell
  have f4 := h.frozen 4
  have hg4 : g < w.heap.size := cell_lt c4
  have hmap := Lib.hid h.map
  have hkey := Lib.hid (keyInt (a := (k : Int)) (by omega) (by omega))
  obtain ⟨o, ho⟩ : ∃ o, o = mget D (.int .i64 k) := ⟨_, rfl⟩
  have HM := Lib.hid ho.symm
  have hmapS := Lib.hid (fun q v => (h.drewN q).map.setCell (a := ⟨g, 4, none⟩) (fun e => h.ne e.symm) v)
  clear hpre hP hr h ho hop
  go_enter Tryd.func35, Tryd.ntmps35
  go_upto_if 21 with (at_lookup; refine wpList_lookup_held _ rfl _ _ 63 rfl 3 31 lawInt Tryd.underlying63 (.slice none 0 0) (zeroInts _) m n D rfl hmap.out _ _ rfl hkey.out o HM.out ?_)
  go_cut [2] (fun s2 wx => s2 = .bool true ∧ PreAt base g m kind tv cv stk n st1 pend1 hs high w wx)
  case first =>
    cases o with
    | none =>
      go_wp2_with fail
      go_meet
      exact ⟨rfl, pre_same H.out HM.out HPre.out⟩
    | some v =>
      obtain ⟨t, ht, hrow⟩ := H.out.pnd _ v HM.out
      obtain ⟨hq1, hq2⟩ := pre_ok ht HPre.out
      have he := Lib.hid (eqInt_any _ _ t st w hrow.ints H.out.stack.ints)
      obtain ⟨tl, htl⟩ : ∃ tl, tl = t.length := ⟨_, rfl⟩
      obtain ⟨tA, tcap, hv', ht1, ht2, ht3⟩ := hrow.reads
      rw [← htl] at hv' ht1 ht2 ht3 hq2
      subst hv'
      have Hq1 := Lib.hid (decide_eq_true hq1)
      have Ht := Lib.hid ht
      clear hq1 ht hrow htl
      by_cases hl : tl = 1
      · subst hl
        obtain ⟨tb, toff, rfl, ht4⟩ := ht3 (by omega)
        have hx := ht4 0 (by omega)
        rw [Nat.add_zero] at hx
        have hne : (t.getD 0 0 == 0) = false := by simpa using hq2 rfl
        obtain ⟨z, hz⟩ : ∃ z, z = t.getD 0 0 := ⟨_, rfl⟩
        rw [← hz] at hx hne
        clear ht3 ht4 hq2 hz ht1 ht2
        go_wp2_with (first | (go_at_call 44; refine (he.out).mono ?_; rintro e w' ⟨rfl, q, rfl⟩; rw [Hq1.out]) | (at_delete; refine wpList_delete_own _ rfl _ _ 63 3 rfl 31 lawInt Tryd.underlying63 heldR m n D rfl (hmapS.out _ _) _ _ rfl hkey.out ?_; intro w1 hown1 hturn1))
        go_meet
        exact ⟨rfl, pre_take H.out HM.out Ht.out HPre.out _ hown1 hturn1⟩
      · have hl' : ((tl : Int) == 1) = false := by rw [beq_eq_false_iff_ne]; omega
        clear ht3 hq2 hl ht1 ht2
        go_wp2_with (first | (go_at_call 44; refine (he.out).mono ?_; rintro e w' ⟨rfl, q, rfl⟩; rw [Hq1.out]) | (at_delete; refine wpList_delete_own _ rfl _ _ 63 3 rfl 31 lawInt Tryd.underlying63 heldR m n D rfl (hmapS.out _ _) _ _ rfl hkey.out ?_; intro w1 hown1 hturn1))
        go_meet
        exact ⟨rfl, pre_take H.out HM.out Ht.out HPre.out _ hown1 hturn1⟩
  case rest =>
    obtain ⟨rfl, ⟨sv1, hv1, D1, h1⟩, hF⟩ := hcut
    clear c0 c1 c2 c3 c4 c5 c6 c7 f4 hmap hkey hmapS HM H
    obtain ⟨htx, A, cap, rfl, hl1, hl2, hcd1⟩ := HP.out _ hF
    obtain ⟨cb, co, rfl, hcd2⟩ := hcd1 (by omega)
    obtain ⟨hx0, hx1, hx2⟩ := hcd2 k hk
    obtain ⟨x, hx⟩ : ∃ x, x = p.code.getD k default := ⟨_, rfl⟩
    have hopa := Hop.out
    rw [← hx] at hx0 hx1 hx2 Hr hopa
    obtain ⟨sA, scap, rfl, hs1, hs2⟩ := h1.stack.slice
    obtain ⟨c0, c1, c2, c3, c4, c5, c6, c7⟩ := h1.cell
    have f6 := h1.frozen 6
    have f7 := h1.frozen 7
    have H := Lib.hid h1
    have HF := Lib.hid hF
    have Htx := Lib.hid htx
    have hg5 : g < wc.heap.size := cell_lt c4
    have HR := Lib.hid (fun (W : World) (hW : CkInv W base g m kind tv (.slice (some ⟨cb, co, none⟩) p.code.length cap) stk (.slice sA st1.length scap) hv1 n D1 st1 pend1 hs high) op => risky_any hW op)
    obtain ⟨op, a, b⟩ := x
    simp only at hx0 hx1 hx2 hopa
    have Hopa := Lib.hid hopa
    clear hopa
    obtain ⟨L, hL⟩ : ∃ L, L = p.code.length := ⟨_, rfl⟩
    obtain ⟨SL, hSL⟩ : ∃ SL, SL = st1.length := ⟨_, rfl⟩
    rw [← hL] at hk hlen hl1 hl2 c2 H HR
    rw [← hSL] at hs1 c4 H HR
    obtain ⟨q2, hq2⟩ : ∃ q2, q2 = riskyB op st1 := ⟨_, rfl⟩
    have HQ2 := Lib.hid hq2.symm
    have HL := Lib.hid hL.symm
    have HSL := Lib.hid hSL.symm
    clear hcd1 hcd2 hx h1 hF htx hL hSL hq2
    go_upto_region 8 with fail
    go_cut [10] (fun s10 wx => s10 = .bool (op == 33 || op == 38) ∧ wx = wc.alloc (.cells #[.int .u8 op, .int .i64 a, .int .i64 b] 23))
    case first =>
      cases h33 : (op == 33)
      · cases h38 : (op == 38)
        all_goals
          go_wp2_with fail
          go_meet
          exact ⟨congrArg Value.bool (by rw [h33, h38]; rfl), rfl⟩
      · go_wp2_with fail
        go_meet
        exact ⟨congrArg Value.bool (by rw [h33]; rfl), rfl⟩
    case rest =>
      obtain ⟨rfl, rfl⟩ := hcut
      obtain ⟨last, hlast⟩ : ∃ last, last = (op == 33 || op == 38) := ⟨_, rfl⟩
      have Hlast := Lib.hid hlast
      rw [← hlast]
      clear hlast
      obtain ⟨bad, hbad⟩ : ∃ bad, bad = (last != ((k : Int) == (L : Int) - 1)) := ⟨_, rfl⟩
      have Hbad := Lib.hid hbad
      clear hbad
      go_upto_region 9 with fail
      go_cut [88] (fun s88 wx => s88 = .bool (bad || q2) ∧ wx = wc.alloc (.cells #[.int .u8 op, .int .i64 a, .int .i64 b] 23))
      case first =>
        cases he : ((k : Int) == (L : Int) - 1)
        all_goals
          cases last
          all_goals
            have hb2 := Hbad.out
            rw [he] at hb2
            have hb3 := hb2.trans (by rfl)
            subst hb3
            clear hb2
            go_wp2_with (go_at_call 45; refine (HR.out _ (H.out.alloc _) _).mono ?_; rintro e w' ⟨rfl, rfl⟩; rw [HQ2.out])
            go_meet
            exact ⟨rfl, rfl⟩
      case rest =>
        obtain ⟨rfl, rfl⟩ := hcut
        have hb0 : ∀ c : Bool, c = (bad || q2) → c = true → r = none := fun c hc hc1 => by
          rw [Hr.out]
          unfold stepS
          simp only
          rw [HL.out, ← Hlast.out, ← Hbad.out, HQ2.out]
          rw [hc1] at hc
          cases bad
          · rw [← hc.trans (Bool.false_or _)]; rfl
          · rfl
        obtain ⟨stop, hstop⟩ : ∃ stop, stop = (bad || q2) := ⟨_, rfl⟩
        have hb1 := hb0 stop hstop
        rw [← hstop]
        cases stop
        · have hbq : bad = false ∧ q2 = false := by cases bad <;> cases q2 <;> first | exact ⟨rfl, rfl⟩ | cases hstop
          obtain ⟨rfl, rfl⟩ := hbq
          clear hb0 hb1 hstop
          obtain ⟨i0, hi0, hz0, hz1, hz2⟩ := info_parts infoInt
          have hHL := H.out.heights
          obtain ⟨hA, hcap, rfl, hh1, hh2⟩ := hHL.slice
          obtain ⟨HLn, hHLn⟩ : ∃ HLn, HLn = hs.length := ⟨_, rfl⟩
          have Hown : Hid ((((wc.alloc (.cells #[.int .u8 op, .int .i64 a, .int .i64 b] 23)).drew).alloc (.cells #[.int .i64 SL] 3)).ownsRow base 3 1 (.slice hA HLn hcap) HLn (ints hs)) := Lib.hid (by rw [hHLn]; exact ((H.out.alloc _).drew.alloc _).heights)
          have Hnews : Hid (∀ j u, [Value.int .i64 (SL : Int)][j]? = some u → (((wc.alloc (.cells #[.int .u8 op, .int .i64 a, .int .i64 b] 23)).drew).alloc (.cells #[.int .i64 SL] 3)).cell? ((⟨wc.heap.size + 1, 0, none⟩ : Addr).add j) = some u) := Lib.hid (by
            intro j u hu
            cases j with
            | zero =>
              simp at hu; subst hu
              have hc := cell_new0 ((wc.alloc (.cells #[.int .u8 op, .int .i64 a, .int .i64 b] 23)).drew) (.int .i64 (SL : Int)) 3
              rw [show ((wc.alloc (.cells #[.int .u8 op, .int .i64 a, .int .i64 b] 23)).drew).heap.size = wc.heap.size + 1 from by simp] at hc
              exact hc
            | succ j => simp at hu)
          have H1c : Hid (∀ u ∈ [Value.int .i64 (SL : Int)], u.oneCell' = true) := Lib.hid (by intro u hu; simp at hu; subst hu; rfl)
          have HHL := Lib.hid hHLn
          have HbW : Hid (base ≤ (((wc.alloc (.cells #[.int .u8 op, .int .i64 a, .int .i64 b] 23)).drew).alloc (.cells #[.int .i64 SL] 3)).heap.size) := Lib.hid (by have := HF.out.size; simp; omega)
          have HW : Hid (CkInv (((wc.alloc (.cells #[.int .u8 op, .int .i64 a, .int .i64 b] 23)).drew).alloc (.cells #[.int .i64 SL] 3)) base g m kind tv (.slice (some ⟨cb, co, none⟩) L cap) stk (.slice sA SL scap) (.slice hA hs.length hcap) n D1 st1 pend1 hs high) := Lib.hid ((H.out.alloc _).drew.alloc _)
          have HgA : Hid ((Value.slice hA HLn hcap).ownBlock ≠ some g) := Lib.hid (fun e => H.out.heights.neg H.out.blk (by decide) ((ownBlock_slice hA _ _ _ _).trans e))
          have Hbx0 : Hid ((((wc.alloc (.cells #[.int .u8 op, .int .i64 a, .int .i64 b] 23)).drew).alloc (.cells #[.int .i64 SL] 3)).heap[wc.heap.size]? = some (.cells #[.int .u8 op, .int .i64 a, .int .i64 b] 23 (0, 0))) := Lib.hid ((heap_alloc_old _ _ (by simp)).trans (heap_alloc_new wc _))
          have HgB : Hid ((Value.slice hA HLn hcap).ownBlock ≠ some wc.heap.size) := Lib.hid (fun e => by
            have := (H.out.heights.block ((ownBlock_slice hA _ _ _ _).trans e)).2.1
            omega)
          rw [← hHLn] at c6 hhs
          clear hHL hHLn hh1 hh2
          go_wp2_with fail
          obtain ⟨wb, hwb⟩ : ∃ wb, wb = wc := ⟨_, rfl⟩
          subst hwb
          go_cut [] (fun wx => Hid (∃ hv2, CkInv wx base g m kind tv (.slice (some ⟨cb, co, none⟩) L cap) stk (.slice sA SL scap) hv2 n D1 st1 pend1 (hs ++ [(SL : Int)]) high ∧ Fr base g m w wx ∧ wx.cell? ⟨wb.heap.size, 0, none⟩ = some (.int .u8 op) ∧ wx.cell? ⟨wb.heap.size, 1, none⟩ = some (.int .i64 a) ∧ wx.cell? ⟨wb.heap.size, 2, none⟩ = some (.int .i64 b)))
          case first =>
            go_region_law ((refine step_append_lies _ (by rfl) (.tmp 93) (.tmp 99) 31 (by rfl) base 3 i0 (.int .i64 0) 1 8 Tryd.underlying31 hi0 hz0 hz1 hz2 (by rfl) (by decide) (.slice hA HLn hcap) HLn (ints hs) (by simp [Act.eval, Act.put]) Hown.out ⟨wb.heap.size + 1, 0, none⟩ 1 1 [.int .i64 SL] (by simp [Act.eval, Act.put]) rfl Hnews.out H1c.out (by omega) (by unfold maxLen; omega) (by omega) HbW.out (wb.heap.size + 2) (by simp) ?_; intro gx cx w1 ho1 hg1 hat1 hlt1; have hc41 := (hg1.cell_far ⟨g, 4, none⟩ (by simp; omega) (fun e => HgA.out e.symm)).trans HW.out.cell.2.2.2.2.1; have hc61 := (hg1.cell_far ⟨g, 6, none⟩ (by simp; omega) (fun e => HgA.out e.symm)).trans HW.out.cell.2.2.2.2.2.2.1; have hf61 := (hg1.frozen_far ⟨g, 6, none⟩ (by simp; omega) (fun e => HgA.out e.symm)).trans (HW.out.frozen 6); have HO1 := Lib.hid (And.intro ho1 (And.intro hg1 hat1)); clear ho1 hg1 hat1))
            all_goals
              obtain ⟨ho1, hg1, hat1⟩ := HO1.out
              have hrow1 : Row w1 base 3 (.slice (some ⟨gx, 0, none⟩) (HLn + 1) cx) (hs ++ [(SL : Int)]) := by
                have e1 : (hs ++ [(SL : Int)]).length = HLn + 1 := by rw [List.length_append, HHL.out]; rfl
                unfold Row
                rw [e1, ints_append]
                exact ho1
              have hg1' : (((wb.alloc (.cells #[.int .u8 op, .int .i64 a, .int .i64 b] 23)).drew).alloc (.cells #[.int .i64 SL] 3)).grownBy w1 (Value.slice hA hs.length hcap).ownBlock := by rw [ownBlock_slice hA _ _ HLn hcap]; exact hg1
              have h2 := HW.out.setHeights hg1' hrow1 (by
                rcases hat1 with e | e
                · exact .inr (.inl (by rw [ownBlock_slice hA _ _ HLn hcap]; exact e.symm))
                · refine .inr (.inr ⟨gx, rfl, ?_⟩)
                  rw [e]; simp)
              have hfr2 : Fr base g m (((wb.alloc (.cells #[.int .u8 op, .int .i64 a, .int .i64 b] 23)).drew).alloc (.cells #[.int .i64 SL] 3)) (w1.setCell ⟨g, 6, none⟩ (.slice (some ⟨gx, 0, none⟩) (HLn + 1) cx)) := (Fr.grown hg1' (fun k hk => by
                obtain ⟨e1, _, e2⟩ := HW.out.heights.block hk
                exact ⟨e1, e2⟩)).trans (Fr.setG _ _ _ HW.out.hb)
              have hFr2 : Fr base g m w (w1.setCell ⟨g, 6, none⟩ (.slice (some ⟨gx, 0, none⟩) (HLn + 1) cx)) := (((HF.out.trans (Fr.alloc ..)).trans (Fr.drewN base g m _ 1)).trans (Fr.alloc ..)).trans hfr2
              have hng : wb.heap.size ≠ g := by have := H.out.lt; omega
              have hnm : wb.heap.size ≠ m := by have := H.out.lt; omega
              have hbx0 := hfr2.cells Hbx0.out (by decide) hng hnm 0 _ rfl
              have hbx1 := hfr2.cells Hbx0.out (by decide) hng hnm 1 _ rfl
              have hbx2 := hfr2.cells Hbx0.out (by decide) hng hnm 2 _ rfl
              have Hall := Lib.hid (And.intro h2 (And.intro hFr2 (And.intro hbx0 (And.intro hbx1 hbx2))))
              clear h2 hFr2 hbx0 hbx1 hbx2 hfr2 hg1' hrow1
              go_wp2_with fail
              go_meet
              exact Lib.hid ⟨_, Hall.out⟩
          case rest =>
            obtain ⟨hv2, h2, hFr2, bx0, bx1, bx2⟩ := hcut.out
            obtain ⟨W2, hW2⟩ : ∃ W2, W2 = wc := ⟨_, rfl⟩
            subst hW2
            obtain ⟨d0, d1, d2, d3, d4, d5, d6, d7⟩ := h2.cell
            have hgW := h2.lt
            have HF2 := Lib.hid hFr2
            have H2 := Lib.hid h2
            have hop1 : 1 ≤ op ∧ 0 ≤ a := Hopa.out
            have HC := Lib.hid (fun r0 hr0 => conds_any h2 ⟨op, a, b⟩ k (Nat.le_trans hbase hFr2.size) (by rw [pre_st HPre.out]; exact hst) p.texts (HP.out _ hFr2).1 (some ⟨cb, co, none⟩) L cap rfl (by omega) hlen hn hop1.1 hop1.2 r0 hr0)
            have HLc := Lib.hid (fun r0 hr0 => lics_any h2 ⟨op, a, b⟩ (Nat.le_trans hbase hFr2.size) (by rw [pre_st HPre.out]; exact hst) p.texts (HP.out _ hFr2).1 hop1.2 r0 hr0)
            have hstep : stepS p k ⟨op, a, b⟩ st1 pend1 = match (if p.kind = 1 then condsS L p.texts k ⟨op, a, b⟩ st1 pend1 else licsS p.texts ⟨op, a, b⟩ st1 pend1) with
                | none => none
                | some (st2, pend2) => if (st2.length : Int) ≤ p.stack then some (st2, pend2) else none := by
              unfold stepS
              simp only
              rw [HL.out, ← Hlast.out, ← Hbad.out, HQ2.out]
              rfl
            rw [← hkind, ← hstk] at hstep
            have Hr2 := Lib.hid (Hr.out.trans (congrArg _ hstep))
            clear hcut h2 hFr2 c0 c1 c2 c3 c4 c5 c6 c7 f6 f7 hx0 hx1 hx2 hstep Hr HR hkind hstk Hown Hnews H1c HgA HgB Hbx0 hi0 hz0 hz1 hz2 hop1
            cases hkd : (kind == 1)
            · have hk1 : kind ≠ 1 := by rw [beq_eq_false_iff_ne] at hkd; exact hkd
              cases hr0 : licsS p.texts ⟨op, a, b⟩ st1 pend1 with
              | none =>
                have hrn : r = none := by rw [Hr2.out, if_neg hk1, hr0]; rfl
                have Hrn := Lib.hid hrn
                have HCl := Lib.hid (HLc.out none hr0.symm)
                clear hrn hk1 hr0 HC HLc Hr2
                go_wp2_with (go_at_call 47; refine (HCl.out).mono ?_; intro e W3 hx; obtain ⟨rfl, A3, L3, cap3, e4, e7, ef7, eg, hfr3, hbg⟩ := mid_none rfl hx; clear hx)
                ((go_region_law (fail)); all_goals (go_wp2_with fail; go_quiet (fail); go_wp2; go_ret); all_goals exact num_none Hrn.out (by simp) (((HF2.out.trans hfr3.out).trans (Fr.setG _ 7 _ hbg)).trans (Fr.ofHeap rfl rfl rfl rfl)))
              | some q =>
                obtain ⟨st2, pend2⟩ := q
                obtain ⟨L3, hL3⟩ : ∃ L3, L3 = st2.length := ⟨_, rfl⟩
                have HCl := Lib.hid (HLc.out _ hr0.symm)
                have hrn := Hr2.out
                rw [if_neg hk1, hr0] at hrn
                simp only at hrn
                rw [← hL3] at hrn
                have HL3 := Lib.hid hL3
                have Hrn := Lib.hid hrn
                clear hrn hk1 hr0 HC HLc Hr2 hL3
                (have hfit : (Hid (r = some (st1, st2, pend2)) ∧ (L3 : Int) ≤ stk) ∨ (Hid (r = none) ∧ stk < (L3 : Int)) := (by by_cases hf : (L3 : Int) ≤ stk; exact .inl ⟨Lib.hid (by rw [Hrn.out, if_pos hf]; rfl), hf⟩; exact .inr ⟨Lib.hid (by rw [Hrn.out, if_neg hf]; rfl), by omega⟩)); clear Hrn; rcases hfit with ⟨Hrn, hfit⟩ | ⟨Hrn, hfit⟩
                all_goals
                  go_wp2_with (go_at_call 47; refine (HCl.out).mono ?_; intro e W3 hx; obtain ⟨rfl, A3, cap3, hv3, D3, e4, e7, e3, ef7, eg, hfr3, hbg, H3⟩ := mid_some rfl hx HL3.out; clear hx)
                  ((go_region_law (fail)); all_goals (go_wp2_with fail; go_quiet (fail); go_wp2; go_ret); all_goals first | exact num_none Hrn.out (by simp [hfit]) (((HF2.out.trans hfr3.out).trans (Fr.setG _ 7 _ hbg)).trans (Fr.ofHeap rfl rfl rfl rfl)) | exact num_some Hrn.out (by simp [hfit]) (H3.out.setHigh _) (by rfl) HSL.out HL3.out (((HF2.out.trans hfr3.out).trans (Fr.setG _ 7 _ hbg)).trans (Fr.ofHeap rfl rfl rfl rfl)) (by rw [HL.out]))
            · have hk1 : kind = 1 := beq_iff_eq.1 hkd
              cases hr0 : condsS L p.texts k ⟨op, a, b⟩ st1 pend1 with
              | none =>
                have hrn : r = none := by rw [Hr2.out, if_pos hk1, hr0]; rfl
                have Hrn := Lib.hid hrn
                have HCl := Lib.hid (HC.out none hr0.symm)
                clear hrn hk1 hr0 HC HLc Hr2
                go_wp2_with (go_at_call 46; refine (HCl.out).mono ?_; intro e W3 hx; obtain ⟨rfl, A3, L3, cap3, e4, e7, ef7, eg, hfr3, hbg⟩ := mid_none rfl hx; clear hx)
                ((go_region_law (fail)); all_goals (go_wp2_with fail; go_quiet (fail); go_wp2; go_ret); all_goals exact num_none Hrn.out (by simp) (((HF2.out.trans hfr3.out).trans (Fr.setG _ 7 _ hbg)).trans (Fr.ofHeap rfl rfl rfl rfl)))
              | some q =>
                obtain ⟨st2, pend2⟩ := q
                obtain ⟨L3, hL3⟩ : ∃ L3, L3 = st2.length := ⟨_, rfl⟩
                have HCl := Lib.hid (HC.out _ hr0.symm)
                have hrn := Hr2.out
                rw [if_pos hk1, hr0] at hrn
                simp only at hrn
                rw [← hL3] at hrn
                have HL3 := Lib.hid hL3
                have Hrn := Lib.hid hrn
                clear hrn hk1 hr0 HC HLc Hr2 hL3
                (have hfit : (Hid (r = some (st1, st2, pend2)) ∧ (L3 : Int) ≤ stk) ∨ (Hid (r = none) ∧ stk < (L3 : Int)) := (by by_cases hf : (L3 : Int) ≤ stk; exact .inl ⟨Lib.hid (by rw [Hrn.out, if_pos hf]; rfl), hf⟩; exact .inr ⟨Lib.hid (by rw [Hrn.out, if_neg hf]; rfl), by omega⟩)); clear Hrn; rcases hfit with ⟨Hrn, hfit⟩ | ⟨Hrn, hfit⟩
                all_goals
                  go_wp2_with (go_at_call 46; refine (HCl.out).mono ?_; intro e W3 hx; obtain ⟨rfl, A3, cap3, hv3, D3, e4, e7, e3, ef7, eg, hfr3, hbg, H3⟩ := mid_some rfl hx HL3.out; clear hx)
                  ((go_region_law (fail)); all_goals (go_wp2_with fail; go_quiet (fail); go_wp2; go_ret); all_goals first | exact num_none Hrn.out (by simp [hfit]) (((HF2.out.trans hfr3.out).trans (Fr.setG _ 7 _ hbg)).trans (Fr.ofHeap rfl rfl rfl rfl)) | exact num_some Hrn.out (by simp [hfit]) (H3.out.setHigh _) (by rfl) HSL.out HL3.out (((HF2.out.trans hfr3.out).trans (Fr.setG _ 7 _ hbg)).trans (Fr.ofHeap rfl rfl rfl rfl)) (by rw [HL.out]))
        · have Hrn := Lib.hid (hb1 rfl)
          clear hb0 hb1 hstop
          go_wp2
          go_ret
          unfold NumOut
          rw [Hrn.out]
          exact ⟨by simp, HF.out.trans (Fr.alloc ..)⟩
end
end Go.Proofs.YtkjhdgomkdemkaaDoor
