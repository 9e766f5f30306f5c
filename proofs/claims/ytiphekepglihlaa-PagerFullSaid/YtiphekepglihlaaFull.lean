/- triadlaw4.PagerFull: what is reckoned. -/
import Derived.Test.YtiphekepglihlaaKept
namespace Go.Proofs.Ytiphekepglihlaa
open Go.RowKit Go.Maps
set_option linter.unusedVariables false

/-- page k holds the byte k -/
def fullZ : List (List UInt8) := (List.range 20).map fun i => [UInt8.ofNat (i + 1)]
theorem fullZ_get {j : Nat} (h : j < 20) : fullZ[j]? = some [UInt8.ofNat (j + 1)] := by
  unfold fullZ
  rw [List.getElem?_map, List.getElem?_range h]
  rfl
theorem fullA_new {n j : Nat} (hn : 403 ≤ n) (hj : j < n - 402) (zs : List (List UInt8)) : newO n true (keptA zs j 0) = ((j : Int) + 1, 0, { keptA zs j 0 with ever := (j : Int) + 1 }.set ((j : Int) + 1) (some (pad504 []))) := by
  rw [show newO n true (keptA zs j 0) = newA n (keptA zs j 0) from if_neg (by simp)]
  unfold newA
  rw [show (keptA zs j 0).gone = [] from rfl]
  simp only
  rw [if_pos (show (keptA zs j 0).ever + 1 < (n : Int) - 401 by show (j : Int) + 1 < _; omega)]
  rfl
theorem fullA_got {j : Nat} (zs : List (List UInt8)) : getA ({ keptA zs j 0 with ever := (j : Int) + 1 }.set ((j : Int) + 1) (some (pad504 []))) ((j : Int) + 1) = (List.replicate 504 0, 0) := by
  unfold getA
  rw [AS.set_B, if_pos rfl]
  rfl
theorem fullA_put {j : Nat} {l : List UInt8} {zs : List (List UInt8)} (hl : zs[j]? = some l) (h5 : l.length ≤ 504) :
    putO true ({ keptA zs j 0 with ever := (j : Int) + 1 }.set ((j : Int) + 1) (some (pad504 []))) ((j : Int) + 1) l = (0, keptA zs (j + 1) 0) := by
  rw [show ∀ A k l, putO true A k l = putA A k l from fun A k l => if_neg (by simp)]
  unfold putA
  rw [if_pos (by rw [AS.set_B, if_pos rfl]; rfl), if_neg (by omega)]
  refine congrArg (fun x => ((0 : Int), x)) ?_
  unfold AS.set keptA
  simp only
  congr 1
  funext q
  push_cast
  by_cases e1 : q = (j : Int) + 1
  · rw [if_pos e1, if_pos (by omega), e1, show ((j : Int) + 1 - 1).toNat = j by omega, List.getD_eq_getElem?_getD, hl]
    rfl
  · rw [if_neg e1, if_neg e1]
    by_cases e2 : 1 ≤ q ∧ q ≤ (j : Int)
    · rw [if_pos e2, if_pos (by omega)]
    · rw [if_neg e2, if_neg (by omega)]
theorem fullA_no {n : Nat} (hn : 403 ≤ n) (zs : List (List UInt8)) : newO n true (keptA zs (n - 402) 0) = (0, 14, keptA zs (n - 402) 0) := by
  rw [show newO n true (keptA zs (n - 402) 0) = newA n (keptA zs (n - 402) 0) from if_neg (by simp)]
  unfold newA
  rw [show (keptA zs (n - 402) 0).gone = [] from rfl]
  simp only
  rw [if_neg (show ¬ (keptA zs (n - 402) 0).ever + 1 < (n : Int) - 401 by show ¬ ((n - 402 : Nat) : Int) + 1 < _; omega)]
/-- one page that is free, behind it in use again -/
def backA (zs : List (List UInt8)) (m : Nat) (k : Int) : AS := { keptA zs m 0 with gone := [k] }.set k none
theorem fullA_drop {m : Nat} {zs : List (List UInt8)} {k : Int} (hk : 1 ≤ k ∧ k ≤ m) : dropO true (keptA zs m 0) k = (0, backA zs m k) := by
  rw [show dropO true (keptA zs m 0) k = dropA (keptA zs m 0) k from if_neg (by simp)]
  unfold dropA
  rw [if_pos (by show (if 1 ≤ k ∧ k ≤ m then some _ else none).isSome = true; rw [if_pos hk]; rfl)]
  rfl
theorem fullA_back {n m : Nat} {zs : List (List UInt8)} {k : Int} : ∃ A, newO n true (backA zs m k) = (k, 0, A) ∧ getA A k = (List.replicate 504 0, 0) := by
  refine ⟨{ backA zs m k with gone := [] }.set k (some (pad504 [])), ?_, ?_⟩
  · rw [show newO n true (backA zs m k) = newA n (backA zs m k) from if_neg (by simp)]
    rfl
  · unfold getA
    rw [AS.set_B, if_pos rfl]
    rfl
theorem u8_page {j : Nat} (h : j < 20) : IntKind.u8.wrap ((j : Int) + 1) = ((UInt8.ofNat (j + 1)).toNat : Int) := by
  rw [UInt8.toNat_ofNat']
  simp [IntKind.wrap, IntKind.bits, IntKind.signed]
end Go.Proofs.Ytiphekepglihlaa
