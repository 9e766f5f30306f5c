/- slices: Clone, Grow and Concat of texts and of numbers. -/
import Derived.Test.YtdilkgcoecipjaaBtS
import Derived.Laws.World
namespace Go.Proofs.Ytdilkgcoecipjaa
open Go.RowKit
set_option linter.unusedVariables false

theorem own_empty (w : World) (e : TypeId) (size : Nat) (o : Obj) (ho : o = .cells #[] e (0, 0)) (B0 : Nat) (hB : B0 ≤ w.heap.size) : (w.alloc o).ownsRow B0 e size (.slice (some ⟨w.heap.size, 0, none⟩) 0 0) 0 [] :=
  ⟨by simp, .inr ⟨w.heap.size, 0, #[], rfl, hB, by rw [ho]; exact heap_alloc_new w _, Nat.le_refl _, by simp [maxLen], by simp, by simp⟩⟩

set_option maxRecDepth 100000 in
set_option maxHeartbeats 2000000 in
theorem clone_str (xs : List Value) (p : Option Addr) (n c : Nat) (w : World) (hr : Rd w 1 (.slice p n c) n xs) (h1 : ∀ u ∈ xs, u.oneCell' = true) (hl : n ≤ 100000) :
    Calls Try.prog 31 #[.slice p n c] w fun e w' => ∃ p' c', e = .returned (.slice p' n c') ∧ w'.ownsRow w.heap.size TSt 1 (.slice p' n c') n xs ∧ Below w.heap.size w w' := by
  have HR := hid hr
  have H1 := hid h1
  obtain ⟨hlen, p0, c0, he, hnc, hcm, hp0, _⟩ := hr
  cases he
  clear h1
  cases p with
  | none =>
    have h0 : n = 0 ∧ c = 0 := by have := hp0 rfl; omega
    obtain ⟨rfl, rfl⟩ := h0
    have hs0 : xs = [] := List.eq_nil_of_length_eq_zero (by simpa using hlen)
    subst hs0
    clear hp0
    have heq := Lib.run_eql_slice_nil (P := Try.prog) w TSs _ none 0 0 0 0 Try.underlying33
    go_enter Try.func31, Try.ntmps31
    go_wp2_with fail
    go_ret
    exact ⟨none, 0, rfl, World.ownsRow_nil _ _ _ _, Below.refl _ _⟩
  | some a =>
    clear hp0 hlen hnc hcm
    have heq := Lib.run_eql_slice_nil (P := Try.prog) w TSs _ (some a) n c 0 0 Try.underlying33
    go_enter Try.func31, Try.ntmps31
    go_wp2_with (at_builtin; refine wp_keep ?_)
    refine hid ?_
    refine wpList_append_rd rfl _ _ TSs rfl w.heap.size TSt _ 1 16 Try.underlying33 infoSt rfl (by decide) _ 0 [] rfl (own_empty w TSt 1 _ rfl w.heap.size (Nat.le_refl _)) _ n xs rfl (HR.out.new ((Below.refl _ _).alloc (Nat.le_refl _) _)) H1.out (by simp only [maxLen]; omega) (by omega) (by simp) ?_
    intro p2 c2 w2 ho2 hg2 _
    have hb : Below w.heap.size w w2 := ((Below.refl w.heap.size w).alloc (Nat.le_refl _) _).grown hg2 (by simp) (by intro k hk; cases hk; exact Nat.le_refl _)
    rw [Nat.zero_add] at ho2 ⊢
    rw [List.nil_append] at ho2
    have HO := hid ho2
    have HB := hid hb
    clear ho2 hb hg2
    go_wp2_with fail
    go_ret
    exact ⟨p2, c2, rfl, HO.out, HB.out⟩

set_option maxRecDepth 100000 in
set_option maxHeartbeats 2000000 in
theorem clone_int (xs : List Value) (p : Option Addr) (n c : Nat) (w : World) (hr : Rd w 1 (.slice p n c) n xs) (h1 : ∀ u ∈ xs, u.oneCell' = true) (hl : n ≤ 100000) :
    Calls Try.prog 61 #[.slice p n c] w fun e w' => ∃ p' c', e = .returned (.slice p' n c') ∧ w'.ownsRow w.heap.size TI 1 (.slice p' n c') n xs ∧ Below w.heap.size w w' := by
  have HR := hid hr
  have H1 := hid h1
  obtain ⟨hlen, p0, c0, he, hnc, hcm, hp0, _⟩ := hr
  cases he
  clear h1
  cases p with
  | none =>
    have h0 : n = 0 ∧ c = 0 := by have := hp0 rfl; omega
    obtain ⟨rfl, rfl⟩ := h0
    have hs0 : xs = [] := List.eq_nil_of_length_eq_zero (by simpa using hlen)
    subst hs0
    clear hp0
    have heq := Lib.run_eql_slice_nil (P := Try.prog) w TIs _ none 0 0 0 0 Try.underlying44
    go_enter Try.func61, Try.ntmps61
    go_wp2_with fail
    go_ret
    exact ⟨none, 0, rfl, World.ownsRow_nil _ _ _ _, Below.refl _ _⟩
  | some a =>
    clear hp0 hlen hnc hcm
    have heq := Lib.run_eql_slice_nil (P := Try.prog) w TIs _ (some a) n c 0 0 Try.underlying44
    go_enter Try.func61, Try.ntmps61
    go_wp2_with (at_builtin; refine wp_keep ?_)
    refine hid ?_
    refine wpList_append_rd rfl _ _ TIs rfl w.heap.size TI _ 1 8 Try.underlying44 infoTI rfl (by decide) _ 0 [] rfl (own_empty w TI 1 _ rfl w.heap.size (Nat.le_refl _)) _ n xs rfl (HR.out.new ((Below.refl _ _).alloc (Nat.le_refl _) _)) H1.out (by simp only [maxLen]; omega) (by omega) (by simp) ?_
    intro p2 c2 w2 ho2 hg2 _
    have hb : Below w.heap.size w w2 := ((Below.refl w.heap.size w).alloc (Nat.le_refl _) _).grown hg2 (by simp) (by intro k hk; cases hk; exact Nat.le_refl _)
    rw [Nat.zero_add] at ho2 ⊢
    rw [List.nil_append] at ho2
    have HO := hid ho2
    have HB := hid hb
    clear ho2 hb hg2
    go_wp2_with fail
    go_ret
    exact ⟨p2, c2, rfl, HO.out, HB.out⟩
end Go.Proofs.Ytdilkgcoecipjaa
