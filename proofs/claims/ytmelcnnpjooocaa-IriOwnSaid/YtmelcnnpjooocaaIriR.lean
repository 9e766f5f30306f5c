/- the document's chapter 10: in, upTo. -/
import Derived.Test.YtmelcnnpjooocaaIriW
namespace Go.Proofs.Ytmelcnnpjooocaa
open Go.RowKit
set_option linter.unusedVariables false

theorem in_any (c : UInt8) (st : List UInt8) (w : World) (hl : st.length ≤ 1000000) :
    Calls Try.prog 22 #[.int .u8 (c.toNat : Int), .string (B st)] w fun e w' => e = .returned (.bool (st.contains c)) ∧ w = w' := by
  go_enter Try.func22, Try.ntmps22
  go_wp2_with fail
  go_loopw [5] (fun i wr => ∃ j : Nat, j ≤ st.length ∧ i = .int .i64 j ∧ wr = w ∧ ∀ k, k < j → st[k]? ≠ some c) (fun i _ => st.length + 1 - (intOf i).toNat)
  case atStart => exact ⟨0, Nat.zero_le _, rfl, rfl, fun k hk => by omega⟩
  case round =>
    obtain ⟨j, hj, rfl, hw, hf⟩ := hrel
    have HF := hid hf
    have HW := hid hw
    clear hf hw
    by_cases hlt : j < st.length
    · obtain ⟨d, hd⟩ : ∃ d, st[j]'hlt = d := ⟨_, rfl⟩
      have hd2 := hid (show st[j]? = some d by rw [List.getElem?_eq_getElem hlt, hd])
      by_cases hdc : d = c
      · subst hdc
        go_wp2_with fail
        go_ret
        refine ⟨?_, HW.out.symm⟩
        have : st.contains d = true := by simpa using List.mem_of_getElem? hd2.out
        rw [this]; rfl
      · have hne : ¬ ((d.toNat : Int) = (c.toNat : Int)) := fun h => hdc (UInt8.toNat_inj.1 (by omega))
        have HDC := hid hdc
        clear hdc
        go_wp2_with fail
        go_roundw
        case rel => exact ⟨j + 1, by omega, by go_num, HW.out, fun k hk => (by
          by_cases hkj : k = j
          · subst hkj
            rw [hd2.out]
            intro h; injection h with h; exact HDC.out h
          · exact HF.out k (by omega))⟩
        case measure => simp [intOf]; omega
    · go_wp2_with fail
      go_ret
      refine ⟨?_, HW.out.symm⟩
      have : st.contains c = false := by
        apply Bool.eq_false_iff.2
        intro h
        have h2 : c ∈ st := by simpa using h
        obtain ⟨k, hk, he⟩ := List.getElem_of_mem h2
        exact HF.out k (by omega) (by rw [List.getElem?_eq_getElem hk, he])
      rw [this]; rfl

theorem up_from {st l : List UInt8} {f k : Nat} {c : UInt8} (hf : f ≤ k) (h1 : ∀ j, f ≤ j → j < k → ∃ d, l[j]? = some d ∧ st.contains d = false) (h2 : l[k]? = some c) (h3 : st.contains c = true) : f + up st (l.drop f) = k := by
  have := up_step (st := st) (l := l.drop f) (i := k - f) (c := c) (fun j hj => by
    obtain ⟨d, h4, h5⟩ := h1 (f + j) (by omega) (by omega)
    exact ⟨d, by rw [List.getElem?_drop]; exact h4, h5⟩) (by rw [List.getElem?_drop, show f + (k - f) = k by omega]; exact h2) h3
  omega
theorem up_from_all {st l : List UInt8} {f : Nat} (hf : f ≤ l.length) (h1 : ∀ j, f ≤ j → j < l.length → ∃ d, l[j]? = some d ∧ st.contains d = false) : f + up st (l.drop f) = l.length := by
  have := up_all (st := st) (l := l.drop f) (fun j hj => by
    rw [List.length_drop] at hj
    obtain ⟨d, h4, h5⟩ := h1 (f + j) (by omega) (by omega)
    exact ⟨d, by rw [List.getElem?_drop]; exact h4, h5⟩)
  rw [List.length_drop] at this
  omega

theorem upTo_any (l st : List UInt8) (f : Nat) (w : World) (hf : f ≤ l.length) (hl : l.length ≤ 1000000) (hs : st.length ≤ 1000000) :
    Calls Try.prog 16 #[.string (B l), .int .i64 f, .string (B st)] w fun e w' => e = .returned (.int .i64 ((f + up st (l.drop f) : Nat) : Int)) ∧ w = w' := by
  go_enter Try.func16, Try.ntmps16
  go_wp2_with fail
  go_loopw [7] (fun i wr => ∃ k : Nat, f ≤ k ∧ k ≤ l.length ∧ i = .int .i64 k ∧ wr = w ∧ ∀ j, f ≤ j → j < k → ∃ d, l[j]? = some d ∧ st.contains d = false) (fun i _ => l.length + 1 - (intOf i).toNat)
  case atStart => exact ⟨f, Nat.le_refl _, hf, rfl, rfl, fun j h1 h2 => by omega⟩
  case round =>
    obtain ⟨k, hfk, hk, rfl, hw, hfa⟩ := hrel
    have HF := hid hfa
    have HW := hid hw
    clear hfa hw
    by_cases hlt : k < l.length
    · obtain ⟨c, hc⟩ : ∃ c, l[k]'hlt = c := ⟨_, rfl⟩
      have hc2 := hid (show l[k]? = some c by rw [List.getElem?_eq_getElem hlt, hc])
      go_wp2_with fail
      refine (in_any c st _ hs).mono ?_; rintro e1 wx ⟨rfl, hw⟩
      subst hw
      rcases Bool.eq_false_or_eq_true (st.contains c) with hin | hin
      · have HIN := hid hin
        rw [hin]
        clear hin
        go_wp2_with fail
        go_ret
        refine ⟨?_, HW.out.symm⟩
        rw [up_from hfk HF.out hc2.out HIN.out]; rfl
      · have HIN := hid hin
        rw [hin]
        clear hin
        go_wp2_with fail
        go_roundw
        case rel => exact ⟨k + 1, by omega, by omega, by go_num, HW.out, fun j h1 h2 => (by
          by_cases hjk : j = k
          · subst hjk
            exact ⟨c, hc2.out, HIN.out⟩
          · exact HF.out j h1 (by omega))⟩
        case measure => simp [intOf]; omega
    · have hkl : k = l.length := by omega
      go_wp2_with fail
      go_ret
      refine ⟨?_, HW.out.symm⟩
      rw [up_from_all hf (fun j h1 h2 => HF.out j h1 (by omega)), ← hkl]; rfl
end Go.Proofs.Ytmelcnnpjooocaa
