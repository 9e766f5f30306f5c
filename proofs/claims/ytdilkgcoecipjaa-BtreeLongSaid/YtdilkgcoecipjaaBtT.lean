/- Texts as lists of bytes, and their order. -/
import Derived.Test.YtdilkgcoecipjaaHeap
import Derived.Lib.Strings
import Derived.DeepKeys
namespace Go.Proofs.Ytdilkgcoecipjaa
open Go.RowKit
set_option linter.unusedVariables false

/-- a text of bytes -/
def B (l : List UInt8) : ByteArray := ⟨l.toArray⟩

@[go_sem] theorem B_size (l : List UInt8) : (B l).size = l.length := by simp [B, ByteArray.size]
theorem B_data (l : List UInt8) : (B l).data.toList = l := rfl
theorem toList_eq (a : ByteArray) : a.toList = a.data.toList := Go.Lib.toList_data a
@[go_sem] theorem B_toList (l : List UInt8) : (B l).toList = l := by rw [toList_eq]; rfl
@[go_sem] theorem mk_toList (l : List UInt8) : (ByteArray.mk (List.toArray l)).toList = l := B_toList l
theorem B_of (a : ByteArray) : a = B a.data.toList := rfl
theorem B_ext {a b : ByteArray} (h : a.data.toList = b.data.toList) : a = b := by
  rw [B_of a, B_of b, h]
theorem B_extract (l : List UInt8) (i j : Nat) : (B l).extract i j = B ((l.drop i).take (j - i)) := by
  apply B_ext
  rw [Go.Lib.extract_data, B_data, B_data]
@[go_sem] theorem B_extract_to (l : List UInt8) (j : Nat) : (B l).extract 0 j = B (l.take j) := by rw [B_extract]; rfl
@[go_sem] theorem B_extract_from (l : List UInt8) (i : Nat) : (B l).extract i l.length = B (l.drop i) := by rw [B_extract, List.take_of_length_le (by simp)]
@[go_sem] theorem B_append (l m : List UInt8) : B l ++ B m = B (l ++ m) := by
  apply B_ext
  simp [B]
@[go_sem] theorem mk_append (l m : List UInt8) : ByteArray.mk (List.toArray l) ++ B m = B (l ++ m) := B_append l m
@[go_sem] theorem append_mk (l m : List UInt8) : B l ++ ByteArray.mk (List.toArray m) = B (l ++ m) := B_append l m

@[go_sem] theorem B_get (l : List UInt8) (i : Nat) (h : i < (B l).size) : (B l)[i]'h = l[i]'(by rw [B_size] at h; exact h) := rfl
/-! texts in order -/
abbrev ltB (a b : List UInt8) : Bool := Op.bytesLess a b
theorem ltB_nil (a : List UInt8) : ltB a [] = false := by cases a <;> rfl
theorem ltB_irr : ∀ a : List UInt8, ltB a a = false
  | [] => rfl
  | x :: a => by
    have h := ltB_irr a
    simp [ltB, Op.bytesLess] at h ⊢
    exact h
theorem ltB_trans : ∀ {a b c : List UInt8}, ltB a b = true → ltB b c = true → ltB a c = true
  | a, b, [], _, h2 => by rw [ltB_nil] at h2; cases h2
  | a, [], c :: zs, h1, _ => by rw [ltB_nil] at h1; cases h1
  | [], b :: ys, c :: zs, _, _ => rfl
  | a :: xs, b :: ys, c :: zs, h1, h2 => by
    simp only [ltB, Op.bytesLess, Bool.or_eq_true, Bool.and_eq_true, decide_eq_true_eq, beq_iff_eq] at h1 h2 ⊢
    rcases h1 with h1 | ⟨rfl, h1⟩ <;> rcases h2 with h2 | ⟨rfl, h2⟩
    · exact .inl (UInt8.lt_trans h1 h2)
    · exact .inl h1
    · exact .inl h2
    · exact .inr ⟨rfl, ltB_trans h1 h2⟩
theorem ltB_tri : ∀ {a b : List UInt8}, ltB a b = false → ltB b a = false → a = b
  | [], [], _, _ => rfl
  | [], _ :: _, h, _ => by cases h
  | _ :: _, [], _, h => by cases h
  | a :: xs, b :: ys, h1, h2 => by
    simp only [ltB, Op.bytesLess, Bool.or_eq_false_iff, Bool.and_eq_false_iff, decide_eq_false_iff_not, beq_eq_false_iff_ne] at h1 h2
    have hab : a = b := by
      have e1 := h1.1
      have e2 := h2.1
      exact UInt8.le_antisymm (by simpa using e2) (by simpa using e1)
    subst hab
    have r1 : ltB xs ys = false := by rcases h1.2 with h | h; exact absurd rfl h; exact h
    have r2 : ltB ys xs = false := by rcases h2.2 with h | h; exact absurd rfl h; exact h
    rw [ltB_tri r1 r2]
theorem ltB_asym {a b : List UInt8} (h : ltB a b = true) : ltB b a = false := by
  cases hb : ltB b a with
  | false => rfl
  | true => have := ltB_trans h hb; rw [ltB_irr] at this; cases this
/-- not behind, then before: as with ≤ -/
theorem ltB_le_trans {a b c : List UInt8} (h1 : ltB b a = false) (h2 : ltB c b = false) : ltB c a = false := by
  cases h : ltB c a with
  | false => rfl
  | true =>
    cases hab : ltB a b with
    | true => rw [ltB_trans h hab] at h2; cases h2
    | false => have := ltB_tri hab h1; subst this; rw [h] at h2; cases h2
end Go.Proofs.Ytdilkgcoecipjaa
