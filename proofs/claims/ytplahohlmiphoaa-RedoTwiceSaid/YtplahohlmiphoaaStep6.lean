/- redo.home; triadref3.page. -/
import Derived.Test.YtplahohlmiphoaaStep5
import Derived.Test.YtplahohlmiphoaaRef2f
namespace Go.Proofs.Ytplahohlmiphoaa
open Go.RowKit
set_option linter.unusedVariables false

theorem home_any (w : World) (d : Nat) (fp : Nat → Prop) (n : Nat) (s : DS) (at_ : Int) (h : Dsk w d fp n s) :
    Calls Try.prog 45 #[.pointer (some ⟨d, 0, none⟩), .int .i64 at_] w fun e w' => e = .returned (.bool (decide (401 ≤ at_ ∧ at_ < n))) ∧ w = w' := by
  have H := hid h
  clear h
  by_cases h1 : 401 ≤ at_
  · by_cases h2 : at_ < (n : Int)
    · have hd : decide (401 ≤ at_ ∧ at_ < (n : Int)) = true := by simp; omega
      have HD := hid hd
      clear hd
      go_enter Try.func45, Try.ntmps45
      go_wp2_with fail
      refine (dSize_any w d fp n s H.out).mono ?_; rintro e1 wx ⟨rfl, hw⟩
      subst hw
      go_wp2_with fail
      go_ret
      refine ⟨?_, rfl⟩
      have hd := HD.out
      simp at hd ⊢
      first | done | omega
    · have hd : decide (401 ≤ at_ ∧ at_ < (n : Int)) = false := by simp; omega
      have HD := hid hd
      clear hd
      go_enter Try.func45, Try.ntmps45
      go_wp2_with fail
      refine (dSize_any w d fp n s H.out).mono ?_; rintro e1 wx ⟨rfl, hw⟩
      subst hw
      go_wp2_with fail
      go_ret
      refine ⟨?_, rfl⟩
      have hd := HD.out
      simp at hd ⊢
      first | done | omega
  · have hd : decide (401 ≤ at_ ∧ at_ < (n : Int)) = false := by simp; omega
    have HD := hid hd
    clear hd
    go_enter Try.func45, Try.ntmps45
    go_wp2_with fail
    go_ret
    refine ⟨?_, rfl⟩
    have hd := HD.out
    simp at hd ⊢
    first | done | omega

def pad504 (l : List UInt8) : List UInt8 := l ++ List.replicate (504 - l.length) 0

set_option maxRecDepth 100000 in
theorem page_any (w : World) (v : Value) (l : List UInt8) (hv : Bs w v l) (hl : l.length ≤ 504) :
    Calls Try.prog 55 #[v] w fun e w' => ∃ g, e = .returned (.slice (some ⟨g, 0, none⟩) 504 504) ∧ w.heap.size ≤ g ∧ Blk w' g (bv (pad504 l)) 5 ∧ Below w.heap.size w w' := by
  have HV := hid hv
  obtain ⟨_, p, c, rfl, _⟩ := hv
  go_enter Try.func55, Try.ntmps55
  go_wp2_with (first
    | (at_make; refine wpList_make_blk rfl _ _ 26 rfl 5 _ 1 1 Try.underlying26 infoU8 _ _ _ _ 504 rfl rfl rfl rfl (by omega) (by simp only [maxLen]; omega) ?_; intro w1 hh hb1 hl1; rw [made_bytes] at hh; have HM := hid hh; have B1 := hid hb1; have L1 := hid hl1; clear hh hb1 hl1)
    | (refine wpList_copy_gen rfl _ _ 26 26 rfl 5 1 Try.underlying26 infoU8' _ _ _ _ rfl _ _ HM.out _ rfl l.length (bv l) ?hr1 ?hr2 (bv_one _) ?_; (case hr1 => exact HV.out.chg (Chg.new B1.out NoFp) (fun _ _ _ _ h => h)); (case hr2 => rw [bv_length, List.length_replicate]; omega); intro w2 hb2 hc2 hs2; have W2 := hid hb2; have C2 := hid hc2; have S2 := hid hs2; clear hb2 hc2 hs2))
  go_ret
  refine ⟨w.heap.size, rfl, Nat.le_refl _, ?_, ?_⟩
  · have h := W2.out
    have e : splice (bv (List.replicate 504 0)) 0 ((bv l).take (min l.length 504 * 1)) = bv (pad504 l) := by
      rw [show min l.length 504 * 1 = l.length by omega, List.take_of_length_le (by rw [bv_length]; omega), bv_splice]
      congr 1
      unfold splice pad504
      rw [List.take_zero, List.nil_append, Nat.zero_add, List.drop_replicate]
    rw [e] at h
    exact h
  · exact B1.out.trans (C2.out.below (fun k h => by omega) B1.out.size)
end Go.Proofs.Ytplahohlmiphoaa
