import Derived.Test.YtkjhdgomkdemkaaDoorD1
import Derived.Test.YtkjhdgomkdemkaaDoorC3
import Derived.Test.YtkjhdgomkdemkaaDoorB4
/-! May a program be written; its bytes. -/
namespace Go.Proofs.YtkjhdgomkdemkaaDoor
open Go.RowKit Go.Proofs.YtkjhdgomkdemkaaDoorW.PrintWords
set_option linter.unusedVariables false
set_option linter.unusedSimpArgs false
theorem StrsAt.kd {w : World} {A : Option Addr} {n c : Nat} {l : List ByteArray} (h : StrsAt w (.slice A n c) l) : Kd.C Kd.string w A l.length l ∧ l.length ≤ c ∧ n = l.length := by
  obtain ⟨A', c', he, h1, h2, _, h3⟩ := h
  injection he with e1 e2 e3
  subst e1 e2 e3
  refine ⟨⟨rfl, h2, fun hp => ?_⟩, h1, rfl⟩
  obtain ⟨b, off, rfl, hr⟩ := h3 hp
  refine ⟨_, rfl, fun j p hj => ⟨[.string p], rfl, rfl, fun i u hu => ?_⟩⟩
  have hjl := (List.getElem?_eq_some_iff.1 hj).1
  cases i with
  | zero =>
    simp at hu
    subst hu
    have := hr j hjl
    rw [List.getD_eq_getElem?_getD, hj] at this
    have hz : Kd.string.sz = 1 := rfl
    rw [Addr.add_lit, hz, Nat.mul_one]
    simpa using this
  | succ i => simp at hu
theorem InstrsAt.kd {w : World} {A : Option Addr} {n c : Nat} {l : List Instr} (h : InstrsAt w (.slice A n c) l) : Kd.C PVerifyChecks.k23 w A (l.map toS).length (l.map toS) ∧ (l.map toS).length ≤ c ∧ n = l.length := by
  obtain ⟨A', c', he, h1, h2, h3⟩ := h
  injection he with e1 e2 e3
  subst e1 e2 e3
  rw [List.length_map]
  refine ⟨⟨by simp, h2, fun hp => ?_⟩, h1, rfl⟩
  obtain ⟨b, off, rfl, hr⟩ := h3 hp
  refine ⟨_, rfl, fun j p hj => ⟨[.int .u8 p.f0, .int .i64 p.f1, .int .i64 p.f2], rfl, PVerifyChecks.k23_mk _ _, fun i u hu => ?_⟩⟩
  rw [List.getElem?_map] at hj
  obtain ⟨x, hx, rfl⟩ := Option.map_eq_some_iff.1 hj
  have hjl := (List.getElem?_eq_some_iff.1 hx).1
  obtain ⟨c0, c1, c2⟩ := hr j hjl
  rw [List.getD_eq_getElem?_getD, hx] at c0 c1 c2
  have h30 : (PVerifyChecks.k23).sz = 3 := rfl
  rw [Addr.add_lit, h30]
  match i, hu with
  | 0, hu => simp at hu; subst hu; simpa [toS] using c0
  | 1, hu => simp at hu; subst hu; simpa [toS, Nat.add_assoc] using c1
  | 2, hu => simp at hu; subst hu; simpa [toS, Nat.add_assoc] using c2
/-- The program lies there. -/
def PrAt (w : World) (p : Prog) (tv cv : Value) : Prop := StrsAt w tv p.texts ∧ InstrsAt w cv p.code
theorem PrAt.below {w w' : World} {p : Prog} {tv cv : Value} (h : PrAt w p tv cv) (hb : Below w.heap.size w w') : PrAt w' p tv cv := ⟨h.1.below hb, h.2.below hb⟩
def EncOut (p : Prog) (w : World) (e : Ending) (w' : World) : Prop :=
  ∃ bv, e = .returned (.tuple #[bv, .int .i64 (codeErr p)]) ∧ (codeErr p = 0 → Kd.R (Kd.int .u8) 5 w' w.heap.size (fun _ => True) bv (writeS p)) ∧ Below w.heap.size w w'
theorem enc_err {p : Prog} {w w' : World} {e : Ending} {r : Int} (hr : codeErr p = r) (h0 : r ≠ 0) (he : e = .returned (.tuple #[.slice none 0 0, .int .i64 r])) (hb : Below w.heap.size w w') : EncOut p w e w' :=
  ⟨_, by rw [hr]; exact he, fun h => absurd (hr.symm.trans h) h0, hb⟩
theorem enc_ok {p : Prog} {w w1 w' : World} {e : Ending} {bv : Value} (hr : codeErr p = 0) (he : e = .returned (.tuple #[bv, .int .i64 0])) (hR : Kd.R (Kd.int .u8) 5 w' w1.heap.size (fun _ => True) bv (writeS p)) (hw : w.heap.size ≤ w1.heap.size) (hb : Below w.heap.size w w') : EncOut p w e w' :=
  ⟨_, by rw [hr]; exact he, fun _ => Kd.R_lower hR hw, hb⟩
theorem any_false {l : List Instr} (h : l.any wrongB = false) : ∀ x ∈ l, wrongB x = false := by
  intro x hx
  cases hw : wrongB x with
  | false => rfl
  | true => rw [List.any_eq_true.2 ⟨x, hx, hw⟩] at h; cases h
theorem err_ok {p : Prog} (h1 : p.code.length ≤ 32768) (h2 : p.texts.length ≤ 8192) (h3 : p.kind = 1 ∨ p.kind = 2) (h4 : rightB p.stack true = true) (h5 : p.code.any wrongB = false) : codeErr p = if 1048576 < (writeS p).length then 3 else 0 := by
  unfold codeErr
  rw [if_neg (by omega), if_neg (by rw [h4, h5]; simp; omega)]
theorem err_any {p : Prog} (h1 : p.code.length ≤ 32768) (h2 : p.texts.length ≤ 8192) (h : (p.kind ≠ 1 ∧ p.kind ≠ 2) ∨ rightB p.stack true = false ∨ p.code.any wrongB = true) : codeErr p = 210 := by
  unfold codeErr
  rw [if_neg (by omega), if_pos h]
theorem err_lim {p : Prog} (h : 32768 < p.code.length ∨ 8192 < p.texts.length) : codeErr p = 3 := by
  unfold codeErr
  rw [if_pos h]
theorem encW (p : Prog) (hw : p.code.any wrongB = false) (h1 : p.code.length ≤ 32768) (h2 : p.texts.length ≤ 8192) (h4 : rightB p.stack true = true) (tA cA : Option Addr) (tn cn tc cc : Nat) (w : World) (h : PrAt w p (.slice tA tn tc) (.slice cA cn cc)) :
    Calls Tryd.prog 25 #[.agg #[.int .u8 p.kind, .slice tA tn tc, .slice cA cn cc, .int .i64 p.stack]] w fun e w' => ∃ bA bc, e = .returned (.slice bA (writeS p).length bc) ∧ Kd.R (Kd.int .u8) 5 w' w.heap.size (fun _ => True) (.slice bA (writeS p).length bc) (writeS p) ∧ Below w.heap.size w w' := by
  obtain ⟨k1, k2, rfl⟩ := h.1.kd
  obtain ⟨k4, k5, rfl⟩ := h.2.kd
  have := PVerifyChecks.code_write.calls _ p.kind tA tc p.texts cA cc (p.code.map toS) p.stack _ w k1 k2 k4 k5 (write_law p (by omega) (by omega) (any_false hw) h4)
  rw [List.length_map] at this
  refine this.mono ?_
  rintro e w' ⟨v, rfl, hR, hb⟩
  obtain ⟨A, c, rfl⟩ := Kd.R_slice hR
  exact ⟨A, c, rfl, hR, hb⟩
set_option maxHeartbeats 2000000 in
set_option maxRecDepth 100000 in
theorem encode_any (p : Prog) (tv cv : Value) (w : World) (h : PrAt w p tv cv) :
    Calls Tryd.prog 17 #[.agg #[.int .u8 p.kind, tv, cv, .int .i64 p.stack]] w (EncOut p w) := by
  have H := Lib.hid h
  obtain ⟨tA, tc, rfl, _, ht2, _, _⟩ := h.1
  obtain ⟨cA, cc, rfl, _, hc2, _⟩ := h.2
  obtain ⟨cn, hcn⟩ : ∃ cn, cn = p.code.length := ⟨_, rfl⟩
  obtain ⟨tn, htn⟩ : ∃ tn, tn = p.texts.length := ⟨_, rfl⟩
  rw [← hcn] at H hc2 ⊢
  rw [← htn] at H ht2 ⊢
  have HC := Lib.hid hcn
  have HT := Lib.hid htn
  obtain ⟨kind, hkd⟩ : ∃ kind, kind = p.kind := ⟨_, rfl⟩
  obtain ⟨stack, hst⟩ : ∃ stack, stack = p.stack := ⟨_, rfl⟩
  rw [← hkd, ← hst]
  have HK := Lib.hid hkd
  have HS := Lib.hid hst
  have HB : Hid (Below w.heap.size w (w.alloc (.cells #[.int .u8 kind, .slice tA tn tc, .slice cA cn cc, .int .i64 stack] 30))) := Lib.hid (below_al (Below.refl _ _) _)
  clear h hcn htn hkd hst
  by_cases h1 : 32768 < cn
  · have h1' : (32768 : Int) < (cn : Int) := by omega
    go_enter Tryd.func17, Tryd.ntmps17
    go_wp2_with fail
    go_ret2
    exact enc_err (err_lim (.inl (by rw [← HC.out]; exact h1))) (by decide) rfl HB.out
  by_cases h2 : 8192 < tn
  · have h2' : (8192 : Int) < (tn : Int) := by omega
    have h1' : (cn : Int) ≤ 32768 := by omega
    go_enter Tryd.func17, Tryd.ntmps17
    go_wp2_with fail
    go_ret2
    exact enc_err (err_lim (.inr (by rw [← HT.out]; exact h2))) (by decide) rfl HB.out
  have h1' : (cn : Int) ≤ 32768 := by omega
  have h2' : (tn : Int) ≤ 8192 := by omega
  have L1 : Hid (p.code.length ≤ 32768) := Lib.hid (by rw [← HC.out]; omega)
  have L2 : Hid (p.texts.length ≤ 8192) := Lib.hid (by rw [← HT.out]; omega)
  clear h1 h2
  by_cases hk : kind ≠ 1 ∧ kind ≠ 2
  · obtain ⟨hk1, hk2⟩ := hk
    have hk1' : (kind != 1) = true := by simpa using hk1
    have hk2' : (kind != 2) = true := by simpa using hk2
    have he := Lib.hid (err_any L1.out L2.out (.inl ⟨by rw [← HK.out]; exact hk1, by rw [← HK.out]; exact hk2⟩))
    clear hk1 hk2
    go_enter Tryd.func17, Tryd.ntmps17
    go_wp2_with fail
    go_ret2
    exact enc_err he.out (by decide) rfl HB.out
  have hk' : kind = 1 ∨ kind = 2 := by omega
  clear hk
  have HKK : Hid (p.kind = 1 ∨ p.kind = 2) := Lib.hid (by rw [← HK.out]; exact hk')
  rcases hk' with rfl | rfl
  all_goals
    obtain ⟨q1, hq1⟩ : ∃ q1, q1 = rightB stack true := ⟨_, rfl⟩
    have HR := Lib.hid (right_any stack true)
    rw [← hq1] at HR
    have HQ1 : Hid (q1 = rightB p.stack true) := Lib.hid (by rw [← HS.out]; exact hq1)
    clear hq1
    cases q1
    · have he := Lib.hid (err_any L1.out L2.out (.inr (.inl HQ1.out.symm)))
      go_enter Tryd.func17, Tryd.ntmps17
      go_wp2_with (go_at_call 22; refine (HR.out _).mono ?_; rintro e w' ⟨rfl, rfl⟩)
      go_ret2
      exact enc_err he.out (by decide) rfl HB.out
    · obtain ⟨q2, hq2⟩ : ∃ q2, q2 = p.code.any wrongB := ⟨_, rfl⟩
      have HI := Lib.hid (fun W (hb : Below w.heap.size w W) => hasInstr_any (.slice cA cn cc) p.code W (H.out.below hb).2)
      rw [← hq2] at HI
      have HQ2 := Lib.hid hq2.symm
      clear hq2
      cases q2
      · have HW := Lib.hid (fun W (hb : Below w.heap.size w W) => encW p HQ2.out L1.out L2.out HQ1.out.symm tA cA tn cn tc cc W (H.out.below hb))
        have Her := Lib.hid (err_ok L1.out L2.out HKK.out HQ1.out.symm HQ2.out)
        rw [← HK.out, ← HS.out] at HW
        obtain ⟨L, hL⟩ : ∃ L, L = (writeS p).length := ⟨_, rfl⟩
        rw [← hL] at HW Her
        clear hL
        by_cases hlt : 1048576 < L
        · have hlt' : (1048576 : Int) < (L : Int) := by omega
          have he : Hid (codeErr p = 3) := Lib.hid (by rw [Her.out, if_pos hlt])
          clear Her
          go_enter Tryd.func17, Tryd.ntmps17
          go_wp2_with (first | (go_at_call 22; refine (HR.out _).mono ?_; rintro e w' ⟨rfl, rfl⟩) | (go_at_call 23; refine (HI.out _ HB.out).mono ?_; rintro e w2 ⟨rfl, hb2⟩; have b0 := cell_below hb2 (a := ⟨w.heap.size, 0, none⟩) (by simp; rfl); have b1 := cell_below hb2 (a := ⟨w.heap.size, 1, none⟩) (by simp; rfl); have b2 := cell_below hb2 (a := ⟨w.heap.size, 2, none⟩) (by simp; rfl); have b3 := cell_below hb2 (a := ⟨w.heap.size, 3, none⟩) (by simp; rfl); have HB2 := Lib.hid (below_tr HB.out hb2); clear hb2) | (go_at_call 25; refine (HW.out _ HB2.out).mono ?_; rintro e w3 ⟨bA, bc, rfl, hR, hb3⟩; have HR3 := Lib.hid hR; have HB3 := Lib.hid (below_tr HB2.out hb3); clear hR hb3))
          go_ret2
          exact enc_err he.out (by decide) rfl HB3.out
        · have hlt' : (L : Int) ≤ 1048576 := by omega
          have he : Hid (codeErr p = 0) := Lib.hid (by rw [Her.out, if_neg hlt])
          clear Her
          go_enter Tryd.func17, Tryd.ntmps17
          go_wp2_with (first | (go_at_call 22; refine (HR.out _).mono ?_; rintro e w' ⟨rfl, rfl⟩) | (go_at_call 23; refine (HI.out _ HB.out).mono ?_; rintro e w2 ⟨rfl, hb2⟩; have b0 := cell_below hb2 (a := ⟨w.heap.size, 0, none⟩) (by simp; rfl); have b1 := cell_below hb2 (a := ⟨w.heap.size, 1, none⟩) (by simp; rfl); have b2 := cell_below hb2 (a := ⟨w.heap.size, 2, none⟩) (by simp; rfl); have b3 := cell_below hb2 (a := ⟨w.heap.size, 3, none⟩) (by simp; rfl); have HB2 := Lib.hid (below_tr HB.out hb2); clear hb2) | (go_at_call 25; refine (HW.out _ HB2.out).mono ?_; rintro e w3 ⟨bA, bc, rfl, hR, hb3⟩; have HR3 := Lib.hid hR; have HB3 := Lib.hid (below_tr HB2.out hb3); clear hR hb3))
          go_ret2
          exact enc_ok he.out rfl HR3.out HB2.out.size HB3.out
      · have he := Lib.hid (err_any L1.out L2.out (.inr (.inr HQ2.out)))
        go_enter Tryd.func17, Tryd.ntmps17
        go_wp2_with (first | (go_at_call 22; refine (HR.out _).mono ?_; rintro e w' ⟨rfl, rfl⟩) | (go_at_call 23; refine (HI.out _ HB.out).mono ?_; rintro e w2 ⟨rfl, hb2⟩; have HB2 := Lib.hid (below_tr HB.out hb2); clear hb2))
        go_ret2
        exact enc_err he.out (by decide) rfl HB2.out
theorem check_any (p : Prog) (tv cv : Value) (w : World) (h : PrAt w p tv cv) :
    Calls Tryd.prog 16 #[.agg #[.int .u8 p.kind, tv, cv, .int .i64 p.stack]] w fun e w' => e = .returned (.int .i64 (codeErr p)) ∧ Below w.heap.size w w' := by
  have HB : Hid (Below w.heap.size w (w.alloc (.cells #[.int .u8 p.kind, tv, cv, .int .i64 p.stack] 30))) := Lib.hid (below_al (Below.refl _ _) _)
  have HE := Lib.hid (encode_any p tv cv _ (h.below HB.out))
  have H1 := h.1
  have H2 := h.2
  obtain ⟨tA, tc, rfl, _⟩ := H1
  obtain ⟨cA, cc, rfl, _⟩ := H2
  clear h
  go_enter Tryd.func16, Tryd.ntmps16
  go_wp2_with (go_at_call 17; refine (HE.out).mono ?_; rintro e w2 ⟨bv, rfl, _, hb2⟩; have HB2 := Lib.hid (below_tr HB.out hb2); clear hb2)
  go_ret
  exact ⟨rfl, HB2.out⟩
end Go.Proofs.YtkjhdgomkdemkaaDoor
