/- bytes.Clone; a step of redo's: a func value. -/
import Derived.Test.YtplahohlmiphoaaLaw2a
import Derived.WalkSpells
namespace Go.Proofs.Ytplahohlmiphoaa
open Go.RowKit
set_option linter.unusedVariables false

set_option maxRecDepth 100000 in
theorem clone_any (v : Value) (l : List UInt8) (w : World) (hv : Bs w v l) (hl : l.length ≤ 1000000) :
    Calls Try.prog 57 #[v] w fun e w' => ∃ p c, e = .returned (.slice p l.length c) ∧ w'.ownsRow w.heap.size 5 1 (.slice p l.length c) l.length (bv l) ∧ Below w.heap.size w w' := by
  have hv0 := hv
  have HV := hid hv
  obtain ⟨hlen, p, cap, rfl, h1, h2, h3, h4⟩ := hv
  cases p with
  | none =>
    have hc := h3 rfl
    have hn : l.length = 0 := by omega
    obtain rfl : l = [] := List.eq_nil_of_length_eq_zero hn
    subst hc
    have he := fun w a n c n2 c2 => Go.Lib.run_eql_slice_nil (P := Try.prog) w 26 5 a n c n2 c2 Try.underlying26
    go_enter Try.func57, Try.ntmps57
    go_wp2_with fail
    go_ret
    exact ⟨none, 0, rfl, World.ownsRow_nil _ _ _ _, Below.refl _ _⟩
  | some a =>
    have he := fun w a n c n2 c2 => Go.Lib.run_eql_slice_nil (P := Try.prog) w 26 5 a n c n2 c2 Try.underlying26
    clear hv0 h4
    go_enter Try.func57, Try.ntmps57
    go_wp2_with (at_builtin; refine wpList_append_rd rfl _ _ 26 rfl w.heap.size 5 _ 1 1 Try.underlying26 infoU8 rfl (by decide) _ 0 [] rfl (own_fresh _ _ _ 0 rfl (by simp [maxLen]) _ (Nat.le_refl _)) _ l.length (bv l) rfl (HV.out |> fun hq => Rd.new hq ((Below.refl _ _).alloc (Nat.le_refl _) _)) (bv_one _) (by simp only [maxLen]; omega) (by omega) (by simp) ?_; intro pp cc w4 hown4 hg4 hb4; have OW4 := hid hown4; have G4 : Hid (Below w.heap.size w w4) := hid (((Below.refl w.heap.size w).alloc (Nat.le_refl _) _).grown hg4 (by simp) (by intro k hk; cases hk; exact Nat.le_refl _)); clear hown4 hg4 hb4)
    go_ret
    have h := OW4.out
    rw [Nat.zero_add, List.nil_append] at h
    exact ⟨_, _, rfl, h, G4.out⟩
end Go.Proofs.Ytplahohlmiphoaa
