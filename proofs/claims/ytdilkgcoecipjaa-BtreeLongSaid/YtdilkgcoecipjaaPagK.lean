/- triadlaw4: within, known. -/
import Derived.Test.YtdilkgcoecipjaaPagV
import Derived.Test.YtdilkgcoecipjaaTmod
namespace Go.Proofs.Ytdilkgcoecipjaa
open Go.RowKit Go.Maps
set_option linter.unusedVariables false

theorem i64_small {x : Int} (h0 : -9223372036854775808 ≤ x) (h1 : x ≤ 9223372036854775807) : IntKind.i64.wrap x = x := by
  simp [IntKind.wrap, IntKind.bits, IntKind.signed]; omega

theorem openFew (w : World) (d : Nat) (fp : Nat → Prop) (n : Nat) (s : DS) (h : Dsk w d fp n s) (hn : n < 403) :
    Calls Try.prog 21 #[.pointer (some ⟨d, 0, none⟩)] w fun e w' => e = .returned (.tuple #[.pointer none, .int .i64 1]) ∧ w' = w := by
  have HS := hid (dSize_any w d fp n s h)
  have hn' : (n : Int) < 403 := by omega
  clear h
  go_enter Try.func21, Try.ntmps21
  go_wp2_with fail
  refine HS.out.mono ?_; rintro e1 wx ⟨rfl, hw⟩
  subst hw
  go_wp2_with fail
  go_ret2
  exact ⟨rfl, rfl⟩

/-- a new disk, its pages opened -/
theorem openNew (w : World) (n : Nat) (h0 : 403 ≤ n) (h1 : n ≤ 3000) (d : Nat) (fp : Nat → Prop) (hd : Dsk w d fp n (dNew n)) :
    Calls Try.prog 21 #[.pointer (some ⟨d, 0, none⟩)] w fun e w' => ∃ p F, e = .returned (.tuple #[.pointer (some ⟨p, 0, none⟩), .int .i64 0]) ∧ PgV w' p d F n (dNew n) as0 as0 false 0 ∧ Chg fp w w' ∧ w.heap.size ≤ p ∧ ∀ k, F k → fp k ∨ w.heap.size ≤ k :=
  PgV.open hd (home_new h0 h1) (abs_zero h0 _) (by show (0 : Int) + 3000 ≤ 1000000; decide)

theorem new_420 : newO 420 true as0 = (1, 0, { as0 with ever := 1 }.set 1 (some (pad504 []))) := rfl

end Go.Proofs.Ytdilkgcoecipjaa
