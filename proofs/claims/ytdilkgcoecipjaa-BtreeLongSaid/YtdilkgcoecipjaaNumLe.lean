/- A number's bytes read again: plain lemmas. -/
import Derived.Test.YtdilkgcoecipjaaHeap
import Derived.Test.YtdilkgcoecipjaaNum
namespace Go.Proofs.Ytdilkgcoecipjaa
open Go.RowKit
set_option linter.unusedVariables false

theorem le_snoc (u : Int) (k : Nat) : le u (k + 1) = le u k ++ [UInt8.ofNat (u / 2 ^ (8 * k) % 256).toNat] := by
  unfold le; rw [List.range_succ, List.map_append]; rfl

theorem num_le (m : Nat) (n : Nat) : num (le (m : Int) n) = m % 2 ^ (8 * n) := by
  induction n with
  | zero => simp [le, num, Nat.mod_one]
  | succ k ih =>
    have hb : (UInt8.ofNat ((m : Int) / 2 ^ (8 * k) % 256).toNat).toNat = m / 2 ^ (8 * k) % 256 := by
      have e : ((m : Int) / 2 ^ (8 * k) % 256) = ((m / 2 ^ (8 * k) % 256 : Nat) : Int) := by
        have hp : ((2 : Int) ^ (8 * k)) = ((2 ^ (8 * k) : Nat) : Int) := (Int.natCast_pow 2 (8 * k)).symm
        rw [hp, ← Int.natCast_ediv]
        exact (Int.natCast_emod _ 256).symm
      rw [e, Int.toNat_natCast, UInt8.toNat_ofNat']
      omega
    rw [le_snoc, num_snoc, ih, le_length, hb, pow256, show 8 * (k + 1) = 8 * k + 8 from by omega, Nat.pow_add, Nat.mod_mul]

theorem u64_up (z : Int) : ∃ m : Nat, IntKind.u64.wrap z = (m : Int) ∧ (m : Int) = z % 18446744073709551616 := by
  have h : IntKind.u64.wrap z = z % 18446744073709551616 := by simp [IntKind.wrap, IntKind.bits, IntKind.signed]
  have h0 := Int.emod_nonneg z (show (18446744073709551616 : Int) ≠ 0 by omega)
  exact ⟨(z % 18446744073709551616).toNat, by rw [h]; omega, by omega⟩

theorem num8 (z : Int) (h0 : -9223372036854775808 ≤ z) (h1 : z ≤ 9223372036854775807) : wrap64 (num (le (IntKind.u64.wrap z) 8) : Nat) = z := by
  obtain ⟨m, hm, hz⟩ := u64_up z
  have h2 : m % 2 ^ (8 * 8) = m := Nat.mod_eq_of_lt (by omega)
  rw [hm, num_le, h2]
  unfold wrap64
  omega

theorem num1 (z : Int) : ((num (le (IntKind.u64.wrap z) 1) : Nat) : Int) = z % 256 := by
  obtain ⟨m, hm, hz⟩ := u64_up z
  rw [hm, num_le]
  omega

theorem and255 (z : Int) (h0 : -9223372036854775808 ≤ z) (h1 : z ≤ 9223372036854775807) : bits .and .i64 z 255 = z % 256 := by
  have e0 : ((255 : Int) % ((2 ^ 64 : Nat) : Int)).toNat = 2 ^ 8 - 1 := by decide
  have hz := Int.emod_nonneg z (show ((2 ^ 64 : Nat) : Int) ≠ 0 by decide)
  show IntKind.i64.wrap (((BitVec.ofInt 64 z &&& BitVec.ofInt 64 255 : BitVec 64).toNat : Nat) : Int) = _
  rw [BitVec.toNat_and, BitVec.toNat_ofInt, BitVec.toNat_ofInt, e0, Nat.and_two_pow_sub_one_eq_mod, IntWalk.i64_in _ (by omega)]
  omega

end Go.Proofs.Ytdilkgcoecipjaa
