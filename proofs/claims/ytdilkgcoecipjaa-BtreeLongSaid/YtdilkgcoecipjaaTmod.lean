/- what a remainder is, made no less than nought. -/
import Derived.Test.YtdilkgcoecipjaaHeap
namespace Go.Proofs.Ytdilkgcoecipjaa


theorem tmod_up (a n : Int) (hn : 0 < n) : (if a.tmod n < 0 then a.tmod n + n else a.tmod n) = a % n := by
  rcases Int.lt_or_le a 0 with h | h
  · rw [Int.tmod_eq_emod]
    have h1 := Int.emod_nonneg a (show n ≠ 0 by omega)
    have h2 := Int.emod_lt_of_pos a hn
    by_cases hd : n ∣ a
    · have : a % n = 0 := Int.emod_eq_zero_of_dvd hd
      simp [hd, this]
    · have h0 : ¬ 0 ≤ a := by omega
      have habs : (n.natAbs : Int) = n := by omega
      simp only [h0, hd, or_self, if_false, habs]
      rw [if_pos (by omega)]; omega
  · have h3 := Int.tmod_eq_emod_of_nonneg (b := n) h
    have h1 := Int.emod_nonneg a (show n ≠ 0 by omega)
    split <;> omega

theorem tmod_bd (a n : Int) (hn : 0 < n) : -n ≤ a.tmod n ∧ a.tmod n < n := by
  have h1 := Int.emod_nonneg a (show n ≠ 0 by omega)
  have h2 := Int.emod_lt_of_pos a hn
  have h := tmod_up a n hn
  split at h <;> omega

end Go.Proofs.Ytdilkgcoecipjaa
