/- triadlaw10.IriKnown: the walk. -/
import Derived.Test.YtmelcnnpjooocaaIriL
namespace Go.Proofs.Ytmelcnnpjooocaa
open Go.RowKit
set_option linter.unusedVariables false

abbrev LK : Obj := Obj.cells #[.string ⟨#[103, 58, 104]⟩, .string ⟨#[103]⟩, .string ⟨#[46, 47, 103]⟩, .string ⟨#[103, 47]⟩, .string ⟨#[47, 103]⟩, .string ⟨#[47, 47, 103]⟩, .string ⟨#[63, 121]⟩, .string ⟨#[103, 63, 121]⟩, .string ⟨#[35, 115]⟩, .string ⟨#[103, 35, 115]⟩, .string ⟨#[103, 63, 121, 35, 115]⟩, .string ⟨#[59, 120]⟩, .string ⟨#[103, 59, 120]⟩, .string ⟨#[]⟩, .string ⟨#[46]⟩, .string ⟨#[46, 47]⟩, .string ⟨#[46, 46]⟩, .string ⟨#[46, 46, 47]⟩, .string ⟨#[46, 46, 47, 103]⟩, .string ⟨#[46, 46, 47, 46, 46]⟩, .string ⟨#[46, 46, 47, 46, 46, 47]⟩, .string ⟨#[46, 46, 47, 46, 46, 47, 103]⟩, .string ⟨#[46, 46, 47, 46, 46, 47, 46, 46, 47, 103]⟩, .string ⟨#[47, 46, 47, 103]⟩, .string ⟨#[47, 46, 46, 47, 103]⟩, .string ⟨#[103, 46]⟩, .string ⟨#[46, 103]⟩, .string ⟨#[103, 46, 46]⟩, .string ⟨#[46, 46, 103]⟩, .string ⟨#[46, 47, 46, 46, 47, 103]⟩, .string ⟨#[46, 47, 103, 47, 46]⟩, .string ⟨#[103, 47, 46, 47, 104]⟩, .string ⟨#[103, 47, 46, 46, 47, 104]⟩, .string ⟨#[103, 59, 120, 61, 49, 47, 46, 46, 47, 121]⟩, .string ⟨#[103, 63, 121, 47, 46, 46, 47, 120]⟩, .string ⟨#[103, 35, 115, 47, 46, 46, 47, 120]⟩] 9
abbrev WK : Obj := Obj.cells #[.string ⟨#[103, 58, 104]⟩, .string ⟨#[104, 116, 116, 112, 58, 47, 47, 97, 47, 98, 47, 99, 47, 103]⟩, .string ⟨#[104, 116, 116, 112, 58, 47, 47, 97, 47, 98, 47, 99, 47, 103]⟩, .string ⟨#[104, 116, 116, 112, 58, 47, 47, 97, 47, 98, 47, 99, 47, 103, 47]⟩, .string ⟨#[104, 116, 116, 112, 58, 47, 47, 97, 47, 103]⟩, .string ⟨#[104, 116, 116, 112, 58, 47, 47, 103]⟩, .string ⟨#[104, 116, 116, 112, 58, 47, 47, 97, 47, 98, 47, 99, 47, 100, 59, 112, 63, 121]⟩, .string ⟨#[104, 116, 116, 112, 58, 47, 47, 97, 47, 98, 47, 99, 47, 103, 63, 121]⟩, .string ⟨#[104, 116, 116, 112, 58, 47, 47, 97, 47, 98, 47, 99, 47, 100, 59, 112, 63, 113, 35, 115]⟩, .string ⟨#[104, 116, 116, 112, 58, 47, 47, 97, 47, 98, 47, 99, 47, 103, 35, 115]⟩, .string ⟨#[104, 116, 116, 112, 58, 47, 47, 97, 47, 98, 47, 99, 47, 103, 63, 121, 35, 115]⟩, .string ⟨#[104, 116, 116, 112, 58, 47, 47, 97, 47, 98, 47, 99, 47, 59, 120]⟩, .string ⟨#[104, 116, 116, 112, 58, 47, 47, 97, 47, 98, 47, 99, 47, 103, 59, 120]⟩, .string ⟨#[104, 116, 116, 112, 58, 47, 47, 97, 47, 98, 47, 99, 47, 100, 59, 112, 63, 113]⟩, .string ⟨#[104, 116, 116, 112, 58, 47, 47, 97, 47, 98, 47, 99, 47]⟩, .string ⟨#[104, 116, 116, 112, 58, 47, 47, 97, 47, 98, 47, 99, 47]⟩, .string ⟨#[104, 116, 116, 112, 58, 47, 47, 97, 47, 98, 47]⟩, .string ⟨#[104, 116, 116, 112, 58, 47, 47, 97, 47, 98, 47]⟩, .string ⟨#[104, 116, 116, 112, 58, 47, 47, 97, 47, 98, 47, 103]⟩, .string ⟨#[104, 116, 116, 112, 58, 47, 47, 97, 47]⟩, .string ⟨#[104, 116, 116, 112, 58, 47, 47, 97, 47]⟩, .string ⟨#[104, 116, 116, 112, 58, 47, 47, 97, 47, 103]⟩, .string ⟨#[104, 116, 116, 112, 58, 47, 47, 97, 47, 103]⟩, .string ⟨#[104, 116, 116, 112, 58, 47, 47, 97, 47, 103]⟩, .string ⟨#[104, 116, 116, 112, 58, 47, 47, 97, 47, 103]⟩, .string ⟨#[104, 116, 116, 112, 58, 47, 47, 97, 47, 98, 47, 99, 47, 103, 46]⟩, .string ⟨#[104, 116, 116, 112, 58, 47, 47, 97, 47, 98, 47, 99, 47, 46, 103]⟩, .string ⟨#[104, 116, 116, 112, 58, 47, 47, 97, 47, 98, 47, 99, 47, 103, 46, 46]⟩, .string ⟨#[104, 116, 116, 112, 58, 47, 47, 97, 47, 98, 47, 99, 47, 46, 46, 103]⟩, .string ⟨#[104, 116, 116, 112, 58, 47, 47, 97, 47, 98, 47, 103]⟩, .string ⟨#[104, 116, 116, 112, 58, 47, 47, 97, 47, 98, 47, 99, 47, 103, 47]⟩, .string ⟨#[104, 116, 116, 112, 58, 47, 47, 97, 47, 98, 47, 99, 47, 103, 47, 104]⟩, .string ⟨#[104, 116, 116, 112, 58, 47, 47, 97, 47, 98, 47, 99, 47, 104]⟩, .string ⟨#[104, 116, 116, 112, 58, 47, 47, 97, 47, 98, 47, 99, 47, 121]⟩, .string ⟨#[104, 116, 116, 112, 58, 47, 47, 97, 47, 98, 47, 99, 47, 103, 63, 121, 47, 46, 46, 47, 120]⟩, .string ⟨#[104, 116, 116, 112, 58, 47, 47, 97, 47, 98, 47, 99, 47, 103, 35, 115, 47, 46, 46, 47, 120]⟩] 9
def lk : List Value := [.string ⟨#[103, 58, 104]⟩, .string ⟨#[103]⟩, .string ⟨#[46, 47, 103]⟩, .string ⟨#[103, 47]⟩, .string ⟨#[47, 103]⟩, .string ⟨#[47, 47, 103]⟩, .string ⟨#[63, 121]⟩, .string ⟨#[103, 63, 121]⟩, .string ⟨#[35, 115]⟩, .string ⟨#[103, 35, 115]⟩, .string ⟨#[103, 63, 121, 35, 115]⟩, .string ⟨#[59, 120]⟩, .string ⟨#[103, 59, 120]⟩, .string ⟨#[]⟩, .string ⟨#[46]⟩, .string ⟨#[46, 47]⟩, .string ⟨#[46, 46]⟩, .string ⟨#[46, 46, 47]⟩, .string ⟨#[46, 46, 47, 103]⟩, .string ⟨#[46, 46, 47, 46, 46]⟩, .string ⟨#[46, 46, 47, 46, 46, 47]⟩, .string ⟨#[46, 46, 47, 46, 46, 47, 103]⟩, .string ⟨#[46, 46, 47, 46, 46, 47, 46, 46, 47, 103]⟩, .string ⟨#[47, 46, 47, 103]⟩, .string ⟨#[47, 46, 46, 47, 103]⟩, .string ⟨#[103, 46]⟩, .string ⟨#[46, 103]⟩, .string ⟨#[103, 46, 46]⟩, .string ⟨#[46, 46, 103]⟩, .string ⟨#[46, 47, 46, 46, 47, 103]⟩, .string ⟨#[46, 47, 103, 47, 46]⟩, .string ⟨#[103, 47, 46, 47, 104]⟩, .string ⟨#[103, 47, 46, 46, 47, 104]⟩, .string ⟨#[103, 59, 120, 61, 49, 47, 46, 46, 47, 121]⟩, .string ⟨#[103, 63, 121, 47, 46, 46, 47, 120]⟩, .string ⟨#[103, 35, 115, 47, 46, 46, 47, 120]⟩]
def wk : List Value := [.string ⟨#[103, 58, 104]⟩, .string ⟨#[104, 116, 116, 112, 58, 47, 47, 97, 47, 98, 47, 99, 47, 103]⟩, .string ⟨#[104, 116, 116, 112, 58, 47, 47, 97, 47, 98, 47, 99, 47, 103]⟩, .string ⟨#[104, 116, 116, 112, 58, 47, 47, 97, 47, 98, 47, 99, 47, 103, 47]⟩, .string ⟨#[104, 116, 116, 112, 58, 47, 47, 97, 47, 103]⟩, .string ⟨#[104, 116, 116, 112, 58, 47, 47, 103]⟩, .string ⟨#[104, 116, 116, 112, 58, 47, 47, 97, 47, 98, 47, 99, 47, 100, 59, 112, 63, 121]⟩, .string ⟨#[104, 116, 116, 112, 58, 47, 47, 97, 47, 98, 47, 99, 47, 103, 63, 121]⟩, .string ⟨#[104, 116, 116, 112, 58, 47, 47, 97, 47, 98, 47, 99, 47, 100, 59, 112, 63, 113, 35, 115]⟩, .string ⟨#[104, 116, 116, 112, 58, 47, 47, 97, 47, 98, 47, 99, 47, 103, 35, 115]⟩, .string ⟨#[104, 116, 116, 112, 58, 47, 47, 97, 47, 98, 47, 99, 47, 103, 63, 121, 35, 115]⟩, .string ⟨#[104, 116, 116, 112, 58, 47, 47, 97, 47, 98, 47, 99, 47, 59, 120]⟩, .string ⟨#[104, 116, 116, 112, 58, 47, 47, 97, 47, 98, 47, 99, 47, 103, 59, 120]⟩, .string ⟨#[104, 116, 116, 112, 58, 47, 47, 97, 47, 98, 47, 99, 47, 100, 59, 112, 63, 113]⟩, .string ⟨#[104, 116, 116, 112, 58, 47, 47, 97, 47, 98, 47, 99, 47]⟩, .string ⟨#[104, 116, 116, 112, 58, 47, 47, 97, 47, 98, 47, 99, 47]⟩, .string ⟨#[104, 116, 116, 112, 58, 47, 47, 97, 47, 98, 47]⟩, .string ⟨#[104, 116, 116, 112, 58, 47, 47, 97, 47, 98, 47]⟩, .string ⟨#[104, 116, 116, 112, 58, 47, 47, 97, 47, 98, 47, 103]⟩, .string ⟨#[104, 116, 116, 112, 58, 47, 47, 97, 47]⟩, .string ⟨#[104, 116, 116, 112, 58, 47, 47, 97, 47]⟩, .string ⟨#[104, 116, 116, 112, 58, 47, 47, 97, 47, 103]⟩, .string ⟨#[104, 116, 116, 112, 58, 47, 47, 97, 47, 103]⟩, .string ⟨#[104, 116, 116, 112, 58, 47, 47, 97, 47, 103]⟩, .string ⟨#[104, 116, 116, 112, 58, 47, 47, 97, 47, 103]⟩, .string ⟨#[104, 116, 116, 112, 58, 47, 47, 97, 47, 98, 47, 99, 47, 103, 46]⟩, .string ⟨#[104, 116, 116, 112, 58, 47, 47, 97, 47, 98, 47, 99, 47, 46, 103]⟩, .string ⟨#[104, 116, 116, 112, 58, 47, 47, 97, 47, 98, 47, 99, 47, 103, 46, 46]⟩, .string ⟨#[104, 116, 116, 112, 58, 47, 47, 97, 47, 98, 47, 99, 47, 46, 46, 103]⟩, .string ⟨#[104, 116, 116, 112, 58, 47, 47, 97, 47, 98, 47, 103]⟩, .string ⟨#[104, 116, 116, 112, 58, 47, 47, 97, 47, 98, 47, 99, 47, 103, 47]⟩, .string ⟨#[104, 116, 116, 112, 58, 47, 47, 97, 47, 98, 47, 99, 47, 103, 47, 104]⟩, .string ⟨#[104, 116, 116, 112, 58, 47, 47, 97, 47, 98, 47, 99, 47, 104]⟩, .string ⟨#[104, 116, 116, 112, 58, 47, 47, 97, 47, 98, 47, 99, 47, 121]⟩, .string ⟨#[104, 116, 116, 112, 58, 47, 47, 97, 47, 98, 47, 99, 47, 103, 63, 121, 47, 46, 46, 47, 120]⟩, .string ⟨#[104, 116, 116, 112, 58, 47, 47, 97, 47, 98, 47, 99, 47, 103, 35, 115, 47, 46, 46, 47, 120]⟩]

theorem known_row (q : Nat) (hq : q < 36) : ∃ a b : List UInt8, a.length ≤ 1000 ∧ lk[q]? = some (.string (B a)) ∧ wk[q]? = some (.string (B b)) ∧ resolve [104, 116, 116, 112, 58, 47, 47, 97, 47, 98, 47, 99, 47, 100, 59, 112, 63, 113] a = b := by
  rcases (show q = 0 ∨ q = 1 ∨ q = 2 ∨ q = 3 ∨ q = 4 ∨ q = 5 ∨ q = 6 ∨ q = 7 ∨ q = 8 ∨ q = 9 ∨ q = 10 ∨ q = 11 ∨ q = 12 ∨ q = 13 ∨ q = 14 ∨ q = 15 ∨ q = 16 ∨ q = 17 ∨ q = 18 ∨ q = 19 ∨ q = 20 ∨ q = 21 ∨ q = 22 ∨ q = 23 ∨ q = 24 ∨ q = 25 ∨ q = 26 ∨ q = 27 ∨ q = 28 ∨ q = 29 ∨ q = 30 ∨ q = 31 ∨ q = 32 ∨ q = 33 ∨ q = 34 ∨ q = 35 by omega) with h | h | h | h | h | h | h | h | h | h | h | h | h | h | h | h | h | h | h | h | h | h | h | h | h | h | h | h | h | h | h | h | h | h | h | h <;> subst h
  · exact ⟨[103, 58, 104], [103, 58, 104], by decide, rfl, rfl, by kernel_rfl⟩
  · exact ⟨[103], [104, 116, 116, 112, 58, 47, 47, 97, 47, 98, 47, 99, 47, 103], by decide, rfl, rfl, by kernel_rfl⟩
  · exact ⟨[46, 47, 103], [104, 116, 116, 112, 58, 47, 47, 97, 47, 98, 47, 99, 47, 103], by decide, rfl, rfl, by kernel_rfl⟩
  · exact ⟨[103, 47], [104, 116, 116, 112, 58, 47, 47, 97, 47, 98, 47, 99, 47, 103, 47], by decide, rfl, rfl, by kernel_rfl⟩
  · exact ⟨[47, 103], [104, 116, 116, 112, 58, 47, 47, 97, 47, 103], by decide, rfl, rfl, by kernel_rfl⟩
  · exact ⟨[47, 47, 103], [104, 116, 116, 112, 58, 47, 47, 103], by decide, rfl, rfl, by kernel_rfl⟩
  · exact ⟨[63, 121], [104, 116, 116, 112, 58, 47, 47, 97, 47, 98, 47, 99, 47, 100, 59, 112, 63, 121], by decide, rfl, rfl, by kernel_rfl⟩
  · exact ⟨[103, 63, 121], [104, 116, 116, 112, 58, 47, 47, 97, 47, 98, 47, 99, 47, 103, 63, 121], by decide, rfl, rfl, by kernel_rfl⟩
  · exact ⟨[35, 115], [104, 116, 116, 112, 58, 47, 47, 97, 47, 98, 47, 99, 47, 100, 59, 112, 63, 113, 35, 115], by decide, rfl, rfl, by kernel_rfl⟩
  · exact ⟨[103, 35, 115], [104, 116, 116, 112, 58, 47, 47, 97, 47, 98, 47, 99, 47, 103, 35, 115], by decide, rfl, rfl, by kernel_rfl⟩
  · exact ⟨[103, 63, 121, 35, 115], [104, 116, 116, 112, 58, 47, 47, 97, 47, 98, 47, 99, 47, 103, 63, 121, 35, 115], by decide, rfl, rfl, by kernel_rfl⟩
  · exact ⟨[59, 120], [104, 116, 116, 112, 58, 47, 47, 97, 47, 98, 47, 99, 47, 59, 120], by decide, rfl, rfl, by kernel_rfl⟩
  · exact ⟨[103, 59, 120], [104, 116, 116, 112, 58, 47, 47, 97, 47, 98, 47, 99, 47, 103, 59, 120], by decide, rfl, rfl, by kernel_rfl⟩
  · exact ⟨[], [104, 116, 116, 112, 58, 47, 47, 97, 47, 98, 47, 99, 47, 100, 59, 112, 63, 113], by decide, rfl, rfl, by kernel_rfl⟩
  · exact ⟨[46], [104, 116, 116, 112, 58, 47, 47, 97, 47, 98, 47, 99, 47], by decide, rfl, rfl, by kernel_rfl⟩
  · exact ⟨[46, 47], [104, 116, 116, 112, 58, 47, 47, 97, 47, 98, 47, 99, 47], by decide, rfl, rfl, by kernel_rfl⟩
  · exact ⟨[46, 46], [104, 116, 116, 112, 58, 47, 47, 97, 47, 98, 47], by decide, rfl, rfl, by kernel_rfl⟩
  · exact ⟨[46, 46, 47], [104, 116, 116, 112, 58, 47, 47, 97, 47, 98, 47], by decide, rfl, rfl, by kernel_rfl⟩
  · exact ⟨[46, 46, 47, 103], [104, 116, 116, 112, 58, 47, 47, 97, 47, 98, 47, 103], by decide, rfl, rfl, by kernel_rfl⟩
  · exact ⟨[46, 46, 47, 46, 46], [104, 116, 116, 112, 58, 47, 47, 97, 47], by decide, rfl, rfl, by kernel_rfl⟩
  · exact ⟨[46, 46, 47, 46, 46, 47], [104, 116, 116, 112, 58, 47, 47, 97, 47], by decide, rfl, rfl, by kernel_rfl⟩
  · exact ⟨[46, 46, 47, 46, 46, 47, 103], [104, 116, 116, 112, 58, 47, 47, 97, 47, 103], by decide, rfl, rfl, by kernel_rfl⟩
  · exact ⟨[46, 46, 47, 46, 46, 47, 46, 46, 47, 103], [104, 116, 116, 112, 58, 47, 47, 97, 47, 103], by decide, rfl, rfl, by kernel_rfl⟩
  · exact ⟨[47, 46, 47, 103], [104, 116, 116, 112, 58, 47, 47, 97, 47, 103], by decide, rfl, rfl, by kernel_rfl⟩
  · exact ⟨[47, 46, 46, 47, 103], [104, 116, 116, 112, 58, 47, 47, 97, 47, 103], by decide, rfl, rfl, by kernel_rfl⟩
  · exact ⟨[103, 46], [104, 116, 116, 112, 58, 47, 47, 97, 47, 98, 47, 99, 47, 103, 46], by decide, rfl, rfl, by kernel_rfl⟩
  · exact ⟨[46, 103], [104, 116, 116, 112, 58, 47, 47, 97, 47, 98, 47, 99, 47, 46, 103], by decide, rfl, rfl, by kernel_rfl⟩
  · exact ⟨[103, 46, 46], [104, 116, 116, 112, 58, 47, 47, 97, 47, 98, 47, 99, 47, 103, 46, 46], by decide, rfl, rfl, by kernel_rfl⟩
  · exact ⟨[46, 46, 103], [104, 116, 116, 112, 58, 47, 47, 97, 47, 98, 47, 99, 47, 46, 46, 103], by decide, rfl, rfl, by kernel_rfl⟩
  · exact ⟨[46, 47, 46, 46, 47, 103], [104, 116, 116, 112, 58, 47, 47, 97, 47, 98, 47, 103], by decide, rfl, rfl, by kernel_rfl⟩
  · exact ⟨[46, 47, 103, 47, 46], [104, 116, 116, 112, 58, 47, 47, 97, 47, 98, 47, 99, 47, 103, 47], by decide, rfl, rfl, by kernel_rfl⟩
  · exact ⟨[103, 47, 46, 47, 104], [104, 116, 116, 112, 58, 47, 47, 97, 47, 98, 47, 99, 47, 103, 47, 104], by decide, rfl, rfl, by kernel_rfl⟩
  · exact ⟨[103, 47, 46, 46, 47, 104], [104, 116, 116, 112, 58, 47, 47, 97, 47, 98, 47, 99, 47, 104], by decide, rfl, rfl, by kernel_rfl⟩
  · exact ⟨[103, 59, 120, 61, 49, 47, 46, 46, 47, 121], [104, 116, 116, 112, 58, 47, 47, 97, 47, 98, 47, 99, 47, 121], by decide, rfl, rfl, by kernel_rfl⟩
  · exact ⟨[103, 63, 121, 47, 46, 46, 47, 120], [104, 116, 116, 112, 58, 47, 47, 97, 47, 98, 47, 99, 47, 103, 63, 121, 47, 46, 46, 47, 120], by decide, rfl, rfl, by kernel_rfl⟩
  · exact ⟨[103, 35, 115, 47, 46, 46, 47, 120], [104, 116, 116, 112, 58, 47, 47, 97, 47, 98, 47, 99, 47, 103, 35, 115, 47, 46, 46, 47, 120], by decide, rfl, rfl, by kernel_rfl⟩

set_option maxRecDepth 100000 in
set_option maxHeartbeats 4000000 in
theorem iriKnown_walk (a0 : Int) (w : World) (w0 : (Lit.int .i64 a0).wf = true) :
    Calls Try.prog 5 #[.int .i64 a0] w fun e w' => e = .returned (.bool true) ∧ Below w.heap.size w w' := by
  clear w0
  have E9 := hid (within10_any a0 36)
  have hm0 : 0 ≤ a0 % 36 := Int.emod_nonneg _ (by omega)
  have hm1 : a0 % 36 < 36 := Int.emod_lt_of_pos _ (by omega)
  go_enter Try.func5, Try.ntmps5
  go_wp2_with fail
  refine (known10_any _).mono ?_; rintro e1 w2 ⟨rfl, hb2⟩
  have B2 := hid hb2
  clear hb2
  go_wp2_with fail
  have h1 : Blk (w2.alloc LK) w2.heap.size lk 9 := heap_alloc_new w2 _
  have h2 : Blk ((w2.alloc LK).alloc WK) (w2.heap.size + 1) wk 9 := by
    have h3 := heap_alloc_new (w2.alloc LK) WK
    rw [show (w2.alloc LK).heap.size = w2.heap.size + 1 by simp] at h3
    exact h3
  have h3 : Blk ((w2.alloc LK).alloc WK) w2.heap.size lk 9 := h1.chg (Chg.alloc NoFp _ _) (fun h => h)
  have hb3 : Below w.heap.size w ((w2.alloc LK).alloc WK) := (B2.out.alloc B2.out.size _).alloc (Nat.le_trans B2.out.size (by simp)) _
  generalize (w2.alloc LK).alloc WK = w3 at h2 h3 hb3 ⊢
  have H2 := hid h2
  have H3 := hid h3
  have B3 := hid hb3
  clear h1 h2 h3 hb3
  refine (E9.out _ (by decide) (by decide)).mono ?_; rintro e1 wx ⟨rfl, hw⟩
  subst hw
  generalize a0 % 36 = q at hm0 hm1
  obtain ⟨q, rfl⟩ : ∃ n : Nat, q = (n : Int) := ⟨q.toNat, by omega⟩
  obtain ⟨la, lb, hla, hqa, hqb, hres⟩ := known_row q (by omega)
  have HRES := hid hres
  have HQA := hid ((Blk.cell H3.out q).trans hqa)
  have HQB := hid ((Blk.cell H2.out q).trans hqb)
  have hq36 : q < 36 := by omega
  clear hres hqa hqb H2 H3
  generalize w2.heap.size = g1 at HQA HQB B2 ⊢
  go_wp2_with fail
  refine wp_region_plan (fun w' => w'.cell? ⟨g1, q, none⟩ = some (.string (B la)) ∧ w'.cell? ⟨g1 + 1, q, none⟩ = some (.string (B lb))) (fun j => !([4].contains j)) (fun _ => false)
    (.of [0, 1, 2, 3, 5, 6, 7, 8, 4, 9, 10]) (by kernel_rfl) (by kernel_rfl) rfl (by kernel_rfl) (by kernel_rfl) ⟨HQA.out, HQB.out⟩ ?_
  apply wpPlan_val
  case ho => rfl
  case hst => rfl
  case hw => rfl
  case hv => intro w' hS; go_simp; first | done | rfl
  intro K hK
  go_simp
  refine hK _ ?_
  clear hK K
  apply wpPlan_val
  case ho => rfl
  case hst => rfl
  case hw => rfl
  case hv => intro w' hS; go_simp; first | done | rfl
  intro K hK
  go_simp
  refine hK _ ?_
  clear hK K
  apply wpPlan_val
  case ho => rfl
  case hst => rfl
  case hw => rfl
  case hv => intro w' hS; go_simp; first | done | rfl
  intro K hK
  go_simp
  refine hK _ ?_
  clear hK K
  apply wpPlan_val
  case ho => rfl
  case hst => rfl
  case hw => rfl
  case hv => intro w' hS; obtain ⟨c0, c1⟩ := hS; go_simp; first | done | rfl
  intro K hK
  go_simp
  refine hK _ ?_
  clear hK K
  apply wpPlan_val
  case ho => rfl
  case hst => rfl
  case hw => rfl
  case hv => intro w' hS; go_simp; first | done | rfl
  intro K hK
  go_simp
  refine hK _ ?_
  clear hK K
  apply wpPlan_val
  case ho => rfl
  case hst => rfl
  case hw => rfl
  case hv => intro w' hS; go_simp; first | done | rfl
  intro K hK
  go_simp
  refine hK _ ?_
  clear hK K
  apply wpPlan_val
  case ho => rfl
  case hst => rfl
  case hw => rfl
  case hv => intro w' hS; go_simp; first | done | rfl
  intro K hK
  go_simp
  refine hK _ ?_
  clear hK K
  apply wpPlan_val
  case ho => rfl
  case hst => rfl
  case hw => rfl
  case hv => intro w' hS; obtain ⟨c0, c1⟩ := hS; go_simp; first | done | rfl
  intro K hK
  go_simp
  refine hK _ ?_
  clear hK K
  refine wpPlan_list rfl rfl rfl (fun K hK => ?_)
  refine wpList_step (fun K2 hK2 => ?_)
  go_simp
  refine (iResolve_any [104, 116, 116, 112, 58, 47, 47, 97, 47, 98, 47, 99, 47, 100, 59, 112, 63, 113] la _ (by decide) hla).mono ?_
  rintro e1 w7 ⟨rfl, hb7⟩
  rw [HRES.out]
  have QA : Hid (w7.cell? ⟨g1, q, none⟩ = some (.string (B la))) := hid ((hb7.cell (p := ⟨g1, q, none⟩) (World.block_lt_of_cell? w3 ⟨g1, q, none⟩ HQA.out)).trans HQA.out)
  have QB : Hid (w7.cell? ⟨g1 + 1, q, none⟩ = some (.string (B lb))) := hid ((hb7.cell (p := ⟨g1 + 1, q, none⟩) (World.block_lt_of_cell? w3 ⟨g1 + 1, q, none⟩ HQB.out)).trans HQB.out)
  have B7 := hid ((below_drewN B3.out 1).trans (hb7.mono B3.out.size))
  clear hb7 HQA HQB B3
  go_simp
  refine hK2 _ _ ?_
  clear hK2 K2
  simp only [wpList]
  refine hK _ _ (fun _ => ⟨QA.out, QB.out⟩) ?_
  clear hK K
  apply wpPlan_val
  case ho => rfl
  case hst => rfl
  case hw => rfl
  case hv => intro w' hS; go_simp; first | done | rfl
  intro K hK
  go_simp
  refine hK _ ?_
  clear hK K
  apply wpPlan_val
  case ho => rfl
  case hst => rfl
  case hw => rfl
  case hv => intro w' hS; go_simp; first | done | rfl
  intro K hK
  go_simp
  refine hK _ ?_
  clear hK K
  refine wpPlan_nil ?_
  simp only [Qn]
  go_wp2_with fail
  go_ret
  exact ⟨rfl, B7.out⟩
end Go.Proofs.Ytmelcnnpjooocaa
