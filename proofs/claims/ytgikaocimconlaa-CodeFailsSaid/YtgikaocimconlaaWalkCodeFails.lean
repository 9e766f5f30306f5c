/- triadlaw1.CodeFails: the walk. -/
import Derived.Test.YtgikaocimconlaaLaw1
import Derived.Test.YtgikaocimconlaaArgs
namespace Go.Proofs.Ytgikaocimconlaa
open Go.RowKit
set_option linter.unusedVariables false

theorem tkGot_err {l : List UInt8} {e : Int} {n : Nat} (h : e ≠ 0) : tkGot l e n = [] := by simp [tkGot, h]
theorem tkLeft_err {l : List UInt8} {e : Int} {n : Nat} (h : e ≠ 0) : tkLeft l e n = l := by simp [tkLeft, h]
theorem tkErr_err {l : List UInt8} {e : Int} {n : Nat} (h : e ≠ 0) : tkErr l e n = e := by simp [tkErr, h]

theorem rByte_err (r : Nat) (ob : Option Nat) (l : List UInt8) (e : Int) (w : World) (hr : Rdr w r ob l e) (hl : l.length ≤ 1000000) (he0 : 0 < e) (he1 : e ≤ 1000) :
    Calls Try.prog 22 #[.pointer (some ⟨r, 0, none⟩)] w fun en w' => en = .returned (.int .i64 0) ∧ Chg (fun k => k = r) w w' ∧ Rdr w' r ob l e := by
  have h := rByte_any r ob l e w hr hl (by omega) he1
  have hne : e ≠ 0 := by omega
  rw [tkGot_err hne, tkLeft_err hne, tkErr_err hne] at h
  exact h
theorem rInt_err (r : Nat) (ob : Option Nat) (l : List UInt8) (e : Int) (w : World) (hr : Rdr w r ob l e) (hl : l.length ≤ 1000000) (he0 : 0 < e) (he1 : e ≤ 1000) :
    Calls Try.prog 19 #[.pointer (some ⟨r, 0, none⟩)] w fun en w' => en = .returned (.int .i64 0) ∧ Chg (fun k => k = r) w w' ∧ Rdr w' r ob l e := by
  have h := rInt_any r ob l e w hr hl (by omega) he1
  have hne : e ≠ 0 := by omega
  rw [tkGot_err hne, tkLeft_err hne, tkErr_err hne] at h
  have e0 : wrap64 ((num [] : Nat) : Int) = 0 := by simp [num, wrap64]
  rw [e0] at h
  exact h
theorem rText_err (r : Nat) (ob : Option Nat) (l : List UInt8) (e : Int) (w : World) (hr : Rdr w r ob l e) (hl : l.length ≤ 1000000) (he0 : 0 < e) (he1 : e ≤ 1000) :
    Calls Try.prog 17 #[.pointer (some ⟨r, 0, none⟩)] w fun en w' => en = .returned (.string ⟨#[]⟩) ∧ Chg (fun k => k = r) w w' ∧ Rdr w' r ob l e := by
  have h := rText_any r ob l e w hr hl (by omega) he1
  have hne : e ≠ 0 := by omega
  rw [tkGot_err hne, tkLeft_err hne, tkErr_err hne, tkGot_err hne, tkLeft_err hne, tkErr_err hne] at h
  exact h

theorem codeFails_walk (a0 : Option Addr) (len0 cap0 : Nat) (z0 : List Int) (a1 : Int) (a2 : Int) (w : World) (w0 : IsRow .u8 w a0 len0 cap0 z0) (w1 : (Lit.int .i64 a1).wf = true) (w2 : (Lit.int .i64 a2).wf = true) :
    Calls Try.prog 7 #[.slice a0 len0 cap0, .int .i64 a1, .int .i64 a2] w fun e w' => e = .returned (.bool true) ∧ Below w.heap.size w w' := by
  obtain ⟨l, hlen, hb⟩ := w0.bytes
  subst hlen
  have HB := hid hb
  clear w0 w1 w2 hb
  by_cases hl : l.length ≤ 100
  · have hce : (endErr l 0 == 0) = ((l.length : Int) == 0) := by
      unfold endErr
      by_cases h0 : l.length = 0
      · simp [h0]
      · have : 0 < l.length := by omega
        simp [this, h0]
    go_enter Try.func7, Try.ntmps7
    go_wp2_with fail
    refine (known1_any _).mono ?_; rintro e1 w1 ⟨rfl, hb1⟩; have B1 := hid hb1; clear hb1
    go_wp2_with fail
    refine (within1_any _ _ _ (by omega) (by omega)).mono ?_; rintro e1 wx ⟨rfl, rfl⟩
    have m1 := Int.emod_nonneg a1 (show (22 : Int) ≠ 0 by omega); have m2 := Int.emod_lt_of_pos a1 (show (0 : Int) < 22 by omega); generalize a1 % 22 = x at m1 m2 ⊢
    go_wp2_with fail
    refine (within1_any _ _ _ (by omega) (by omega)).mono ?_; rintro e1 wx ⟨rfl, rfl⟩
    have n1 := Int.emod_nonneg a2 (show (22 : Int) ≠ 0 by omega); have n2 := Int.emod_lt_of_pos a2 (show (0 : Int) < 22 by omega); generalize a2 % 22 = y at n1 n2 ⊢
    go_wp2_with fail
    refine (New_any _ l _ (HB.out.new B1.out) (by omega)).mono ?_; rintro e1 w2 ⟨r, rfl, hb2, hr1, ob, hob, hr⟩; have B2 := hid (B1.out.trans (hb2.mono B1.out.size)); have R1 := hid hr1; have OB := hid hob; have R := hid hr; clear hb2 hr1 hob hr
    go_wp2_with fail
    refine (rFail_any r ob l 0 0 _ R.out).mono ?_; rintro e1 w3 ⟨rfl, hc, hr⟩; have C3 := hid hc; have R3 : Hid (Rdr w3 r ob l 0) := hr; clear hc hr R
    go_wp2_with fail
    refine (rEnd_any r ob l 0 _ R3.out (by omega)).mono ?_; rintro e1 wx ⟨rfl, rfl⟩
    go_wp2_with fail
    obtain ⟨e, he⟩ : ∃ e, 1 + x = e := ⟨_, rfl⟩; have he1 : 0 < e := by omega
    have he2 : e ≤ 1000 := by omega
    obtain ⟨f, hf⟩ : ∃ f, 1 + y = f := ⟨_, rfl⟩; have hf1 : 0 < f := by omega
    have hf2 : f ≤ 1000 := by omega
    rw [he, hf]
    clear he hf m1 m2 n1 n2
    have en0 : (e == 0) = false := by simp; omega
    refine (rFail_any r ob l 0 e _ R3.out).mono ?_; rintro e1 w4 ⟨rfl, hc, hr⟩; have C4 := hid (C3.out.trans hc (fun _ _ h => h)); have R4 : Hid (Rdr w4 r ob l e) := hr; clear hc hr R3
    go_wp2_with fail
    refine (rFail_any r ob l e f _ R4.out).mono ?_; rintro e1 w5 ⟨rfl, hc, hr⟩; have C5 := hid (C4.out.trans hc (fun _ _ h => h)); have R5 : Hid (Rdr w5 r ob l e) := by { have h9 : flErr e f = e := by simp [flErr]; omega
                                                                                                                                                                           rw [h9] at hr; exact hr }
    clear hc hr R4
    go_wp2_with fail
    refine (rInt_err r ob l e _ R5.out (by omega) he1 he2).mono ?_; rintro e1 w6 ⟨rfl, hc, hr⟩; have C6 := hid (C5.out.trans hc (fun _ _ h => h)); have R6 := hid hr; clear hc hr R5
    go_wp2_with fail
    refine (rText_err r ob l e _ R6.out (by omega) he1 he2).mono ?_; rintro e1 w7 ⟨rfl, hc, hr⟩; have C7 := hid (C6.out.trans hc (fun _ _ h => h)); have R7 := hid hr; clear hc hr R6
    go_wp2_with fail
    refine (rByte_err r ob l e _ R7.out (by omega) he1 he2).mono ?_; rintro e1 w8 ⟨rfl, hc, hr⟩; have C8 := hid (C7.out.trans hc (fun _ _ h => h)); have R8 := hid hr; clear hc hr R7
    have B8 := hid (B2.out.trans (C8.out.below (B := w.heap.size) (fun k hk => by rw [hk]; exact Nat.le_trans B1.out.size R1.out) B2.out.size))
    go_wp2_with fail
    refine (New_any _ [] _ (Rd.nil _ _) (by simp)).mono ?_; rintro e1 w9 ⟨s, rfl, hb9, hr1, os, hos, hr⟩; have B9 := hid hb9; have S1 := hid hr1; have S9 := hid hr; clear hb9 hr1 hos hr
    go_wp2_with fail
    refine (rInt_any s os [] 0 _ S9.out (by simp) (by omega) (by omega)).mono ?_; rintro e1 w10 ⟨rfl, hc, hr⟩; have D10 := hid hc; have S10 : Hid (Rdr w10 s os [] 7) := hr; clear hc hr S9
    go_wp2_with fail
    refine (rFail_any s os [] 7 f _ S10.out).mono ?_; rintro e1 w11 ⟨rfl, hc, hr⟩; have D11 := hid (D10.out.trans hc (fun _ _ h => h)); have S11 : Hid (Rdr w11 s os [] 7) := hr; clear hc hr S10
    have B11 := hid (B9.out.trans (D11.out.below (B := w8.heap.size) (fun k hk => by rw [hk]; exact S1.out) B9.out.size))
    have R11 := hid (R8.out.chg (Chg.new B11.out NoFp) (fun h => h) (fun _ _ _ h => h))
    go_wp2_with fail
    refine (rEnd_any r ob l e _ R11.out (by omega)).mono ?_; rintro e1 wx ⟨rfl, rfl⟩
    have ee : endErr l e = e := by simp [endErr]; omega
    rw [ee]
    go_wp2_with fail
    refine (rEnd_any s os [] 7 _ S11.out (by simp)).mono ?_; rintro e1 wx ⟨rfl, rfl⟩
    go_wp2_with fail
    go_ret
    exact ⟨rfl, B8.out.trans (B11.out.mono B8.out.size)⟩
  · go_enter Try.func7, Try.ntmps7
    go_wp2_with fail
    refine (known1_any _).mono ?_; rintro e1 w1 ⟨rfl, hb1⟩; have B1 := hid hb1; clear hb1
    go_wp2_with fail
    go_ret
    exact ⟨rfl, B1.out⟩
end Go.Proofs.Ytgikaocimconlaa
