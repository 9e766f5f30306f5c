/- triadlaw4: within, known. -/
import Derived.Test.YtiphekepglihlaaPagV
import Derived.Test.YtiphekepglihlaaTmod
namespace Go.Proofs.Ytiphekepglihlaa
open Go.RowKit Go.Maps
set_option linter.unusedVariables false

theorem i64_small {x : Int} (h0 : -9223372036854775808 ≤ x) (h1 : x ≤ 9223372036854775807) : IntKind.i64.wrap x = x := by
  simp [IntKind.wrap, IntKind.bits, IntKind.signed]; omega

theorem within_any (w : World) (a n : Int) (hn : 0 < n) (hn2 : n ≤ 1000000) :
    Calls Try.prog 16 #[.int .i64 a, .int .i64 n] w fun e w' => e = .returned (.int .i64 (a % n)) ∧ w' = w := by
  have h1 := hid (tmod_up a n hn)
  have h2 := tmod_bd a n hn
  have hz : (n == 0) = false := by rw [beq_eq_false_iff_ne]; omega
  have hw1 : IntKind.i64.wrap (a.tmod n) = a.tmod n := i64_small (by omega) (by omega)
  have hw2 : IntKind.i64.wrap (a.tmod n + n) = a.tmod n + n := i64_small (by omega) (by omega)
  by_cases hlt : a.tmod n < 0
  · go_enter Try.func16, Try.ntmps16
    go_wp2_with fail
    go_ret
    have h3 := h1.out
    rw [if_pos hlt] at h3
    exact ⟨by first | (rw [h3]; done) | (rw [← h3]; rfl) | rfl, rfl⟩
  · go_enter Try.func16, Try.ntmps16
    go_wp2_with fail
    go_ret
    have h3 := h1.out
    rw [if_neg (by omega)] at h3
    exact ⟨by first | (rw [h3]; done) | (rw [← h3]; rfl) | rfl, rfl⟩

theorem openFew (w : World) (d : Nat) (fp : Nat → Prop) (n : Nat) (s : DS) (h : Dsk w d fp n s) (hn : n < 403) :
    Calls Try.prog 17 #[.pointer (some ⟨d, 0, none⟩)] w fun e w' => e = .returned (.tuple #[.pointer none, .int .i64 1]) ∧ w' = w := by
  have HS := hid (dSize_any w d fp n s h)
  have hn' : (n : Int) < 403 := by omega
  clear h
  go_enter Try.func17, Try.ntmps17
  go_wp2_with fail
  refine HS.out.mono ?_; rintro e1 wx ⟨rfl, hw⟩
  subst hw
  go_wp2_with fail
  go_ret2
  exact ⟨rfl, rfl⟩

/-- a new disk, its pages opened -/
theorem openNew (w : World) (n : Nat) (h0 : 403 ≤ n) (h1 : n ≤ 3000) (d : Nat) (fp : Nat → Prop) (hd : Dsk w d fp n (dNew n)) :
    Calls Try.prog 17 #[.pointer (some ⟨d, 0, none⟩)] w fun e w' => ∃ p F, e = .returned (.tuple #[.pointer (some ⟨p, 0, none⟩), .int .i64 0]) ∧ PgV w' p d F n (dNew n) as0 as0 false 0 ∧ Chg fp w w' ∧ w.heap.size ≤ p ∧ ∀ k, F k → fp k ∨ w.heap.size ≤ k :=
  PgV.open hd (home_new h0 h1) (abs_zero h0 _) (by show (0 : Int) + 3000 ≤ 1000000; decide)

theorem new_420 : newO 420 true as0 = (1, 0, { as0 with ever := 1 }.set 1 (some (pad504 []))) := rfl

set_option maxRecDepth 100000 in
theorem known4_any (w : World) : Calls Try.prog 15 #[] w fun e w' => e = .returned (.bool true) ∧ Below w.heap.size w w' := by
  go_enter Try.func15, Try.ntmps15
  go_wp2_with fail
  refine (dNew_any w 420).mono ?_
  rintro e1 w1 ⟨d, rfl, hd1, hb1, hd⟩
  rw [show clampN 420 = 420 from rfl] at hd1
  have D1 := hid hd1
  have B1 := hid hb1
  clear hd1 hb1
  go_wp2_with fail
  refine (openNew w1 420 (by omega) (by omega) d _ D1.out).mono ?_
  rintro e2 w2 ⟨p, F, rfl, hv, hc, hp, hF⟩
  have V2 := hid hv
  have HF : Hid (∀ k, F k → w.heap.size ≤ k) := hid (fun k hk => (hF k hk).elim (fun h => h.1) (fun h => Nat.le_trans B1.out.size h))
  have B2 := hid (B1.out.trans (hc.below (fun k hk => hk.1) B1.out.size))
  clear hv hc hF
  go_wp2_with fail
  refine V2.out.begin.mono ?_
  rintro e3 w3 ⟨rfl, F3, N3, hv, hN3, hc, hF⟩
  have V3 := hid hv
  have HF3 : Hid (∀ k, F3 k → w.heap.size ≤ k) := hid (fun k hk => (hF k hk).elim (HF.out k) (fun h => Nat.le_trans B2.out.size h))
  have B3 := hid (B2.out.trans (hc.below (fun k hk => HF.out k hk) B2.out.size))
  clear hv hc hF
  go_wp2_with fail
  refine (V3.out.new (by omega)).mono ?_
  rw [new_420]
  rintro e4 w4 ⟨rfl, F4, N4, hv, hN4, hc, hF⟩
  have B4 := hid (B3.out.trans (hc.below (fun k hk => HF3.out k hk) B3.out.size))
  clear hv hc hF
  go_wp2_with fail
  refine (dNew_any w4 402).mono ?_
  rintro e5 w5 ⟨d5, rfl, hd5, hb5, hl5⟩
  rw [show clampN 402 = 402 from rfl] at hd5
  have D5 := hid hd5
  have B5 := hid (B4.out.trans (hb5.mono B4.out.size))
  clear hd5 hb5
  go_wp2_with fail
  refine (openFew w5 d5 _ 402 _ D5.out (by omega)).mono ?_
  rintro e6 wx ⟨rfl, hw⟩
  subst hw
  go_wp2_with fail
  go_ret
  exact ⟨rfl, B5.out⟩
end Go.Proofs.Ytiphekepglihlaa
