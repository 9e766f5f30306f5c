/- two neighbours turned. -/
import Derived.Test.YtkhdadbbgfjcgaaSolV
namespace Go.Proofs.Ytkhdadbbgfjcgaa
open Go.RowKit
set_option linter.unusedVariables false

theorem one1_app {a b : List Rw} : One1 (a ++ b) ↔ One1 a ∧ One1 b := by
  unfold One1
  constructor
  · intro h; exact ⟨fun x hx => h x (List.mem_append.2 (.inl hx)), fun x hx => h x (List.mem_append.2 (.inr hx))⟩
  · rintro ⟨h1, h2⟩ x hx
    rcases List.mem_append.1 hx with hx | hx
    · exact h1 x hx
    · exact h2 x hx
set_option maxRecDepth 100000 in
set_option maxHeartbeats 4000000 in
theorem rotate_any (X A B Y : List Rw) (r : List Value) (g a m b N c : Nat) (f : Value) (w : World) (h : Ro w g (X ++ (A ++ (B ++ Y))) r) (h1 : One1 (X ++ (A ++ (B ++ Y))))
    (hN : N = (X ++ (A ++ (B ++ Y))).length) (ha : a = X.length) (hm : m = a + A.length) (hb : b = m + B.length) (hA : 0 < A.length) (hB : 0 < B.length) (hlim : N ≤ 1000000) :
    Calls Try.prog 74 #[.slice (some ⟨g, 0, none⟩) N c, .int .i64 a, .int .i64 m, .int .i64 b, f] w fun e w' => e = .returned (.tuple #[]) ∧ Ro w' g (X ++ (B ++ (A ++ Y))) r ∧ Chg (fun k => k = g) w w' := by
  have H := hid h
  have H1 := hid h1
  have HN := hid hN
  have hN2 : N = X.length + (A.length + (B.length + Y.length)) := by rw [hN]; simp
  have hmN : m ≤ N := by omega
  have hbN : b ≤ N := by omega
  have ham : a < m := by omega
  have hmb : m < b := by omega
  have HA := hid (And.intro ha (And.intro hm hb))
  have HN2 := hid hN2
  clear h h1 hN ha hm hb hN2
  go_enter Try.func74, Try.ntmps74
  go_wp2_with fail
  go_loopw [10, 11] (fun vi vj wr => ∃ (i j xl : Nat) (X' P Q Y' : List Rw), vi = .int .i64 i ∧ vj = .int .i64 j ∧ 0 < i ∧ 0 < j ∧ xl + i = m ∧ m + j ≤ N ∧ Hid (P.length = i ∧ Q.length = j ∧ X'.length = xl) ∧ Hid (X ++ (B ++ (A ++ Y)) = X' ++ (Q ++ (P ++ Y'))) ∧
      Hid (Ro wr g (X' ++ (P ++ (Q ++ Y'))) r) ∧ Hid (One1 (X' ++ (P ++ (Q ++ Y')))) ∧ Hid (N = (X' ++ (P ++ (Q ++ Y'))).length) ∧ Hid (Chg (fun k => k = g) w wr)) (fun vi vj _ => (intOf vi).toNat + (intOf vj).toNat)
  case atStart => exact ⟨A.length, B.length, a, X, A, B, Y, by have := HA.out; go_num, by have := HA.out; go_num, hA, hB, HA.out.2.1.symm, by have := HA.out; omega, ⟨rfl, rfl, HA.out.1.symm⟩, rfl, H, H1, HN, Chg.refl _ _⟩
  case round =>
    obtain ⟨i, j, xl, X', P, Q, Y', rfl, rfl, hi, hj, hxl, hmj, HL, HT, HO, HU, HM, HC⟩ := hrel
    have hmi : (m : Int) - (i : Int) = (xl : Int) := by omega
    by_cases hij : i = j
    · subst hij
      go_wp2_with fail
      refine (swapRange_any X' P [] Q Y' r g xl m i N c f wr (by simpa using HO.out) (by simpa using HU.out) (by simpa using HM.out) HL.out.1 HL.out.2.1 HL.out.2.2.symm (by have := HL.out.2.2; simp; omega) hlim).mono ?_
      rintro e1 w1 ⟨rfl, ho1, hc1⟩
      rw [List.nil_append, ← HT.out] at ho1
      have HO1 := hid ho1
      have HC1 := hid (HC.out.trans hc1 (fun _ _ h => h))
      clear ho1 hc1
      go_wp2_with fail
      go_end0
      exact ⟨rfl, HO1.out, HC1.out⟩
    · have hij2 : ¬ (i : Int) = (j : Int) := by omega
      by_cases hgt : j < i
      · have hgt2 : (j : Int) < (i : Int) := by omega
        obtain ⟨P1, P2, rfl, hp1⟩ : ∃ P1 P2, P = P1 ++ P2 ∧ P1.length = j := ⟨P.take j, P.drop j, (List.take_append_drop _ _).symm, by rw [List.length_take]; have := HL.out.1; omega⟩
        have HP1 := hid hp1
        have hp2 : P1.length + P2.length = i := by have := HL.out.1; rwa [List.length_append] at this
        have HP2 := hid hp2
        clear hp1 hp2
        go_wp2_with fail
        have hL : X' ++ ((P1 ++ P2) ++ (Q ++ Y')) = X' ++ (P1 ++ (P2 ++ (Q ++ Y'))) := by simp
        rw [hL] at HO HU HM
        refine (swapRange_any X' P1 P2 Q Y' r g xl m j N c f wr HO.out HU.out HM.out HP1.out HL.out.2.1 HL.out.2.2.symm (by have := HL.out.2.2; have := HP2.out; have := HP1.out; omega) hlim).mono ?_
        rintro e1 w1 ⟨rfl, ho1, hc1⟩
        have HO1 := hid ho1
        have HC1 := hid (HC.out.trans hc1 (fun _ _ h => h))
        clear ho1 hc1 hL
        go_wp2_with fail
        go_roundw
        case rel => exact ⟨i - j, j, xl + j, X' ++ Q, P2, P1, Y', by go_num, rfl, by omega, hj, by omega, hmj, ⟨by have := HP1.out; have := HP2.out; omega, HP1.out, by have := HL.out.2; simp; omega⟩,
          by rw [HT.out]; exact hid (by simp), hid (by have := HO1.out; simpa using this), hid (by have := HU.out; simp only [one1_app] at this ⊢; simp [this]), by rw [HM.out]; simp only [List.length_append]; exact hid (by omega), HC1⟩
        case measure => simp [intOf]; omega
      · have hgt2 : ¬ (j : Int) < (i : Int) := by omega
        obtain ⟨Q1, Q2, rfl, hq2⟩ : ∃ Q1 Q2, Q = Q1 ++ Q2 ∧ Q2.length = i := ⟨Q.take (j - i), Q.drop (j - i), (List.take_append_drop _ _).symm, by rw [List.length_drop]; have := HL.out.2.1; omega⟩
        have HQ2 := hid hq2
        have hq1 : Q1.length + Q2.length = j := by have := HL.out.2.1; rwa [List.length_append] at this
        have HQ1 := hid hq1
        clear hq1 hq2
        obtain ⟨k, hk⟩ : ∃ k, k = xl + j := ⟨_, rfl⟩
        have hk2 : (m : Int) + (j : Int) - (i : Int) = (k : Int) := by omega
        have HK := hid hk
        clear hk
        go_wp2_with fail
        have hL : X' ++ (P ++ ((Q1 ++ Q2) ++ Y')) = X' ++ (P ++ (Q1 ++ (Q2 ++ Y'))) := by simp
        rw [hL] at HO HU HM
        refine (swapRange_any X' P Q1 Q2 Y' r g xl k i N c f wr HO.out HU.out HM.out HL.out.1 HQ2.out HL.out.2.2.symm (by have := HL.out.2.2; have := HQ2.out; have := HQ1.out; have := HK.out; omega) hlim).mono ?_
        rintro e1 w1 ⟨rfl, ho1, hc1⟩
        have HO1 := hid ho1
        have HC1 := hid (HC.out.trans hc1 (fun _ _ h => h))
        clear ho1 hc1 hL
        go_wp2_with fail
        go_roundw
        case rel => exact ⟨i, j - i, xl, X', Q2, Q1, P ++ Y', rfl, by go_num, hi, by omega, hxl, by omega, ⟨HQ2.out, by have := HQ1.out; have := HQ2.out; omega, HL.out.2.2⟩,
          by rw [HT.out]; exact hid (by simp), hid (by have := HO1.out; simpa using this), hid (by have := HU.out; simp only [one1_app] at this ⊢; simp [this]), by rw [HM.out]; simp only [List.length_append]; exact hid (by omega), HC1⟩
        case measure => simp [intOf]; omega
end Go.Proofs.Ytkhdadbbgfjcgaa
