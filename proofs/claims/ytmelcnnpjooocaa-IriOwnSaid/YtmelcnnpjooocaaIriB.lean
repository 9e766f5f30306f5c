/- iri.back, triadref10.cut, triadref10.begins. -/
import Derived.Test.YtmelcnnpjooocaaIriS
import Derived.Lib.MinMax
namespace Go.Proofs.Ytmelcnnpjooocaa
open Go.RowKit
set_option linter.unusedVariables false

theorem back_any (l : List UInt8) (w : World) (hl : l.length ≤ 1000000) :
    Calls Try.prog 25 #[.string (B l)] w fun e w' => e = .returned (.string (B (back l))) ∧ w = w' := by
  have hb := last_bd l
  go_enter Try.func25, Try.ntmps25
  go_wp2_with fail
  refine (li_any l _ hl).mono ?_; rintro e1 wx ⟨rfl, hw⟩
  subst hw
  have HB : Hid (back l = l.take (max (last l) 0).toNat) := hid rfl
  have hm0 : 0 ≤ max (last l) 0 := by omega
  have hm1 : max (last l) 0 ≤ (l.length : Int) := by omega
  go_wp2_with fail
  go_ret
  rw [HB.out]
  exact ⟨rfl, rfl⟩

theorem lastN_none {l : List UInt8} {k n : Nat} (hk : k ≤ n) (h : ∀ j, k ≤ j → j < n → l[j]? ≠ some 47) : lastN l n = lastN l k := by
  induction n with
  | zero => have : k = 0 := by omega
            subst this; rfl
  | succ n ih =>
    by_cases hkn : k = n + 1
    · rw [hkn]
    · have h1 := h n (by omega) (by omega)
      rw [lastN, if_neg h1]
      exact ih (by omega) (fun j h2 h3 => h j h2 (by omega))

theorem cut_any (l : List UInt8) (w : World) (hl : l.length ≤ 1000000) :
    Calls Try.prog 21 #[.string (B l)] w fun e w' => e = .returned (.string (B (back l))) ∧ w = w' := by
  go_enter Try.func21, Try.ntmps21
  go_wp2_with fail
  go_loopw [3] (fun i wr => ∃ k : Nat, k ≤ l.length ∧ i = .int .i64 ((k : Int) - 1) ∧ wr = w ∧ ∀ j, k ≤ j → j < l.length → l[j]? ≠ some 47) (fun i _ => (intOf i + 1).toNat)
  case atStart => exact ⟨l.length, Nat.le_refl _, rfl, rfl, fun j h1 h2 => by omega⟩
  case round =>
    obtain ⟨k, hk, rfl, hw, hfa⟩ := hrel
    have HF := hid hfa
    have HW := hid hw
    clear hfa hw
    by_cases hk0 : k = 0
    · subst hk0
      go_wp2_with fail
      go_ret
      refine ⟨?_, HW.out.symm⟩
      have : back l = [] := by
        unfold back last
        rw [lastN_none (Nat.zero_le _) HF.out]; rfl
      rw [this]; rfl
    · obtain ⟨m, rfl⟩ : ∃ m, k = m + 1 := ⟨k - 1, by omega⟩
      have hlt : m < l.length := by omega
      obtain ⟨c, hc⟩ : ∃ c, l[m]'hlt = c := ⟨_, rfl⟩
      have hc2 := hid (show l[m]? = some c by rw [List.getElem?_eq_getElem hlt, hc])
      have hm1 : ((m + 1 : Nat) : Int) - 1 = (m : Int) := by omega
      rw [hm1]
      by_cases h47 : c = 47
      · subst h47
        have HB : Hid (back l = l.take m) := hid (by
          unfold back last
          rw [lastN_none (k := m + 1) (by omega) HF.out, lastN, if_pos hc2.out]
          congr 1
          omega)
        clear hm1
        go_wp2_with fail
        go_ret
        refine ⟨?_, HW.out.symm⟩
        rw [HB.out]; rfl
      · have hne : ¬ ((c.toNat : Int) = 47) := fun h => h47 (UInt8.toNat_inj.1 (by show c.toNat = 47; omega))
        have H47 := hid h47
        clear hm1 h47
        go_wp2_with fail
        go_roundw
        case rel => exact ⟨m, by omega, by go_num, HW.out, fun j h1 h2 => (by
          by_cases hjm : j = m
          · subst hjm
            rw [hc2.out]
            intro h; injection h with h; exact H47.out h
          · exact HF.out j (by omega) h2)⟩
        case measure => simp [intOf]

theorem begins_any (l p : List UInt8) (w : World) (hp1 : p.length ≤ 1000) :
    Calls Try.prog 30 #[.string (B l), .string (B p)] w fun e w' => e = .returned (.bool (hp p l)) ∧ w = w' := by
  have HP : Hid (hp p l = (l.take p.length == p)) := hid rfl
  go_enter Try.func30, Try.ntmps30
  by_cases hle : p.length ≤ l.length
  · go_wp2_with fail
    all_goals
      go_ret
      refine ⟨?_, rfl⟩
      rw [HP.out]
      simp_all
  · have H2 : Hid (hp p l = false) := hid (by
      apply Bool.eq_false_iff.2
      intro h
      exact hle (hp_length h))
    go_wp2_with fail
    go_ret
    rw [H2.out]
    exact ⟨rfl, rfl⟩
end Go.Proofs.Ytmelcnnpjooocaa
