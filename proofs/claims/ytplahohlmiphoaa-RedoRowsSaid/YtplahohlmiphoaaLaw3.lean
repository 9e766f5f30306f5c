/- triadlaw3: within, known, Few, Good, homes, same. -/
import Derived.Test.YtplahohlmiphoaaPutA
import Derived.Test.YtplahohlmiphoaaTmod
import Derived.Lib.MinMax
namespace Go.Proofs.Ytplahohlmiphoaa
open Go.RowKit
set_option linter.unusedVariables false

theorem within3_any (a n : Int) (w : World) (hn : 0 < n) (hn2 : n ≤ 1000000) :
    Calls Try.prog 11 #[.int .i64 a, .int .i64 n] w fun e w' => e = .returned (.int .i64 (a % n)) ∧ w = w' := by
  have hu := hid (tmod_up a n hn)
  have hb := tmod_bd a n hn
  have h0 : (n == 0) = false := by simp; omega
  by_cases hlt : a.tmod n < 0
  · have he := hid (hu.out)
    go_enter Try.func11, Try.ntmps11
    go_wp2
    go_ret
    have h := he.out
    rw [if_pos (by omega)] at h
    exact ⟨by rw [← h]; rfl, rfl⟩
  · have he := hid (hu.out)
    go_enter Try.func11, Try.ntmps11
    go_wp2
    go_ret
    have h := he.out
    rw [if_neg (by omega)] at h
    exact ⟨by rw [← h]; rfl, rfl⟩

theorem cntOf_zero (n : Nat) (b : List UInt8) (h : b.take 8 = List.replicate 8 0) : cntOf n b = 0 := by
  unfold cntOf
  rw [h, if_neg]
  rintro ⟨h1, _⟩
  exact absurd h1 (by decide)
theorem recov_none {n : Nat} {s : DS} (h : s.dead = false) (hc : cntOf n (row s.now 0) = 0) : recov n s = (s, 0, 0) := by
  unfold recov
  rw [if_neg (by rw [h]; decide), if_pos hc]
theorem z512_take : z512.take 8 = List.replicate 8 0 := by unfold z512; rw [List.take_replicate]; rfl
theorem recov_new {n : Nat} (h1 : 1 ≤ n) : recov n (dNew n) = (dNew n, 0, 0) :=
  recov_none rfl (cntOf_zero n _ (by
    have e : row (dNew n).now 0 = z512 := row_zero (by omega)
    rw [e, z512_take]))
theorem cmt_nil (n : Nat) (s : DS) : cmt n s [] = (s, 1) := rfl

set_option maxRecDepth 100000 in
theorem known3_any (w : World) : Calls Try.prog 10 #[] w fun e w' => e = .returned (.bool true) ∧ Below w.heap.size w w' := by
  have hC : ∀ (w1 : World) (d : Nat) (fp : Nat → Prop) (s : DS), Dsk w1 d fp 500 s → s.ops + 3000 ≤ 1000000 → Calls Try.prog 13 #[.pointer (some ⟨d, 0, none⟩), .slice none 0 0] w1 fun e w' => e = .returned (.int .i64 1) ∧ DskTo w1 d fp 500 s w' :=
    fun w1 d fp s h ho => by
      have h9 := com_any w1 d fp 500 s none 0 [] h (fun i hi => by simp at hi) (fun hn => absurd rfl hn) (by simp) (by simp) (by simp) ho
      rw [cmt_nil] at h9
      exact h9
  have HC := hid hC
  clear hC
  go_enter Try.func10, Try.ntmps10
  go_wp2_with fail
  refine (dNew_any _ _).mono ?_; rintro e1 w1 ⟨d, rfl, hd, hb1, hl⟩
  rw [show clampN 500 = 500 from by decide] at hd
  have D1 := hid hd
  have B1 := hid hb1
  clear hd hb1
  go_wp2_with fail
  refine (HC.out _ d _ _ D1.out (show (0 : Int) + 3000 ≤ 1000000 by omega)).mono ?_
  rintro e2 w2 ⟨rfl, fp2, hd2, hc2, hf2⟩
  have D2 := hid hd2
  have F2 : Hid (∀ k, fp2 k → w.heap.size ≤ k) := hid (fun k hk => by
    rcases hf2 k hk with h | h
    · exact h.1
    · have := B1.out.size; omega)
  have B2 := hid (B1.out.trans (hc2.below (fun k h => h.1) B1.out.size))
  clear hd2 hc2 hf2 D1 B1
  go_wp2_with fail
  have h9 := recov_any w2 d fp2 500 _ D2.out (show (0 : Int) + 3000 ≤ 1000000 by omega)
  rw [recov_new (by omega)] at h9
  refine h9.mono ?_
  rintro e3 w3 ⟨rfl, fp3, hd3, hc3, hf3⟩
  have B3 := hid (B2.out.trans (hc3.below F2.out B2.out.size))
  clear hd3 hc3 hf3 h9
  go_wp2_with fail
  go_ret
  exact ⟨rfl, B3.out⟩

def fewOf (ls : List (Int × List UInt8)) : Bool := ls.all (fun q => decide (q.2.length ≤ 600)) && decide (ls.length ≤ 410)

set_option maxRecDepth 100000 in
theorem few3_any (w : World) (a : Option Addr) (len cap : Nat) (ls : List (Int × List UInt8)) (h : IsPutsA w a len cap ls) :
    Calls Try.prog 15 #[.slice a len cap] w fun e w' => e = .returned (.bool (fewOf ls)) ∧ w = w' := by
  have H := hid h
  have hlen : len ≤ 9223372036854775807 := by have := h.2.1; simp only [maxLen] at this; omega
  have HL : Hid (ls.length = len) := hid h.1
  clear h
  go_enter Try.func15, Try.ntmps15
  go_wp2_with fail
  go_loopw [3] (fun i wr => ∃ j : Nat, j ≤ len ∧ i = .int .i64 j ∧ wr = w ∧ ∀ (m : Nat) (p : Int × List UInt8), m < j → ls[m]? = some p → p.2.length ≤ 600) (fun i _ => len + 1 - (intOf i).toNat)
  case atStart => exact ⟨0, Nat.zero_le _, rfl, rfl, fun m p hm => by omega⟩
  case round =>
    obtain ⟨j, hj, rfl, rfl, hno⟩ := hrel
    have NO := hid hno
    clear hno
    by_cases hlt : j < len
    · obtain ⟨ab, ao, q, rfl, hq, pb, cb, k0, k1, hbs, hwf⟩ := H.out.2.2 j hlt
      have HQ := hid hq
      have hql : q.2.length ≤ 9223372036854775807 := by
        obtain ⟨_, p, c, he, h1, h2, _⟩ := hbs
        cases he
        simp only [maxLen] at h2; omega
      clear hq hbs hwf
      by_cases hl : 600 < q.2.length
      · have hd : decide ((600 : Int) < (q.2.length : Int)) = true := by simp; omega
        have HE : Hid (fewOf ls = false) := hid (by
          unfold fewOf
          rw [Bool.and_eq_false_iff]
          left
          rw [List.all_eq_false]
          exact ⟨q, List.mem_of_getElem? HQ.out, by simp; omega⟩)
        go_wp2_with fail
        go_ret
        rw [HE.out]
        exact ⟨rfl, rfl⟩
      · have hd : decide ((600 : Int) < (q.2.length : Int)) = false := by simp; omega
        go_wp2_with fail
        go_roundw
        case rel =>
          refine ⟨j + 1, by omega, by go_num, (by first | exact rfl | exact trivial), fun m p hm hp => ?_⟩
          rcases Nat.lt_or_ge m j with h | h
          · exact NO.out m p h hp
          · obtain rfl : m = j := by omega
            have e : p = q := Option.some.inj (hp.symm.trans HQ.out)
            subst e
            omega
        case measure => simp [intOf]; omega
    · obtain rfl : j = len := by omega
      have HE : Hid (fewOf ls = decide ((j : Int) ≤ 410)) := hid (by
        unfold fewOf
        have h1 : ls.all (fun q => decide (q.2.length ≤ 600)) = true := by
          rw [List.all_eq_true]
          intro q hq
          obtain ⟨i, hi, rfl⟩ := List.mem_iff_getElem.1 hq
          have := NO.out i _ (by rw [← HL.out]; exact hi) (List.getElem?_eq_getElem hi)
          simpa using this
        rw [h1, HL.out, Bool.true_and]
        have e : (j ≤ 410) = ((j : Int) ≤ 410) := by apply propext; omega
        simp only [e])
      go_wp2_with fail
      go_ret
      rw [HE.out]
      exact ⟨by simp, rfl⟩
end Go.Proofs.Ytplahohlmiphoaa
