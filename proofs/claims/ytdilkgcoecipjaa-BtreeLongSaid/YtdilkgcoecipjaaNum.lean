/- Numbers as bytes, the lowest one first: plain lemmas. -/
import Derived.WalkKit
namespace Go.Proofs.Ytdilkgcoecipjaa
set_option linter.unusedVariables false

/-- what bytes are as a number, the lowest one first -/
def num : List UInt8 → Nat
  | [] => 0
  | b :: r => b.toNat + 256 * num r
theorem num_snoc (l : List UInt8) (b : UInt8) : num (l ++ [b]) = num l + 256 ^ l.length * b.toNat := by
  induction l with
  | nil => simp [num]
  | cons x r ih =>
    simp only [List.cons_append, num, ih, List.length_cons, Nat.pow_succ]
    rw [Nat.mul_add, ← Nat.mul_assoc, Nat.mul_comm 256 (256 ^ r.length)]
    omega
theorem num_lt (l : List UInt8) : num l < 256 ^ l.length := by
  induction l with
  | nil => simp [num]
  | cons x r ih => simp only [num, List.length_cons, Nat.pow_succ]; have := x.toNat_lt; omega
theorem pow256 (k : Nat) : 256 ^ k = 2 ^ (8 * k) := by rw [Nat.pow_mul]

theorem or_byte (x c k : Nat) (hx : x < 2 ^ (8 * k)) (hc : c < 256) (hk : k < 8) :
    bits .or .u64 (x : Int) (IntKind.u64.wrap ((c : Int) * 2 ^ (8 * k))) = ((x + 2 ^ (8 * k) * c : Nat) : Int) := by
  have h1 : 2 ^ (8 * k) * 256 ≤ 2 ^ 64 := by
    calc 2 ^ (8 * k) * 256 = 2 ^ (8 * k + 8) := by rw [Nat.pow_add]
      _ ≤ 2 ^ 64 := Nat.pow_le_pow_right (by omega) (by omega)
  have h2 : 2 ^ (8 * k) * c < 2 ^ (8 * k) * 256 := Nat.mul_lt_mul_of_pos_left hc (Nat.two_pow_pos _)
  have h3 : 2 ^ (8 * k) ≤ 2 ^ 64 := Nat.le_trans (Nat.le_mul_of_pos_right _ (by omega)) h1
  have e1 : (c : Int) * 2 ^ (8 * k) = ((2 ^ (8 * k) * c : Nat) : Int) := by rw [Int.mul_comm]; simp
  have e2 : IntKind.u64.wrap ((c : Int) * 2 ^ (8 * k)) = ((2 ^ (8 * k) * c : Nat) : Int) := by
    rw [e1]
    refine IntWalk.u64_in _ ⟨by omega, ?_⟩
    have : 2 ^ (8 * k) * c < 18446744073709551616 := Nat.lt_of_lt_of_le h2 h1
    omega
  rw [e2, (bits_nat .u64 64 (by decide) (fun n h0 h1 => IntWalk.u64_in n ⟨h0, by omega⟩) _ _ (Nat.lt_of_lt_of_le hx h3) (Nat.lt_of_lt_of_le h2 h1)).2]
  congr 1
  rw [Nat.or_comm, ← Nat.two_pow_add_eq_or_of_lt hx, Nat.add_comm]

/-- a round of the reading of a number -/
theorem or_round (g : List UInt8) (k : Nat) (h : k < g.length) (hk : k < 8) :
    bits .or .u64 (num (g.take k) : Nat) (IntKind.u64.wrap ((g[k].toNat : Int) * 2 ^ (8 * k))) = (num (g.take (k + 1)) : Nat) := by
  have hl : (g.take k).length = k := by simp; omega
  have hx : num (g.take k) < 2 ^ (8 * k) := by have := num_lt (g.take k); rwa [hl, pow256] at this
  rw [or_byte _ _ _ hx g[k].toNat_lt hk, List.take_succ_eq_append_getElem h, num_snoc, hl, pow256]

/-- a round of the reading from the highest byte down -/
theorem or_down (g : List UInt8) (k : Nat) (h : k < g.length) (h8 : g.length ≤ 8) :
    bits .or .u64 (IntKind.u64.wrap ((num (g.drop (k + 1)) : Int) * 256)) (g[k].toNat : Int) = (num (g.drop k) : Nat) := by
  have hx : num (g.drop (k + 1)) < 256 ^ 7 := Nat.lt_of_lt_of_le (num_lt _) (Nat.pow_le_pow_right (by omega) (by simp; omega))
  have hb := g[k].toNat_lt
  have e1 : IntKind.u64.wrap ((num (g.drop (k + 1)) : Int) * 256) = ((2 ^ 8 * num (g.drop (k + 1)) : Nat) : Int) := by
    rw [IntWalk.u64_in _ (by omega)]; omega
  rw [e1, (bits_nat .u64 64 (by decide) (fun n h0 h1 => IntWalk.u64_in n ⟨h0, by omega⟩) _ _ (by omega) (by omega)).2]
  have hd : g.drop k = g[k] :: g.drop (k + 1) := List.drop_eq_getElem_cons h
  have hb2 : g[k].toNat < 2 ^ 8 := hb
  rw [← Nat.two_pow_add_eq_or_of_lt hb2, hd]
  simp only [num, Nat.reducePow]
  omega

theorem num_le8 (l : List UInt8) (h : l.length ≤ 8) : num l < 2 ^ 64 := by
  have h1 := num_lt l
  rw [pow256] at h1
  exact Nat.lt_of_lt_of_le h1 (Nat.pow_le_pow_right (by omega) (by omega))
end Go.Proofs.Ytdilkgcoecipjaa
