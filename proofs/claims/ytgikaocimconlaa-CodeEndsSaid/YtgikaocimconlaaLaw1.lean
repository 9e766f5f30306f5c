/- triadlaw1: within, known. -/
import Derived.Test.YtgikaocimconlaaRows
import Derived.Test.YtgikaocimconlaaRefCode
namespace Go.Proofs.Ytgikaocimconlaa
open Go.RowKit
set_option linter.unusedVariables false

theorem tmod_up (a n : Int) (hn : 0 < n) : (if a.tmod n < 0 then a.tmod n + n else a.tmod n) = a % n := by
  rcases Int.lt_or_le a 0 with h | h
  · rw [Int.tmod_eq_emod]
    have h1 := Int.emod_nonneg a (show n ≠ 0 by omega)
    have h2 := Int.emod_lt_of_pos a hn
    by_cases hd : n ∣ a
    · have : a % n = 0 := Int.emod_eq_zero_of_dvd hd
      simp [hd, this]
    · have h0 : ¬ 0 ≤ a := by omega
      have habs : (n.natAbs : Int) = n := by omega
      simp only [h0, hd, or_self, if_false, habs]
      rw [if_pos (by omega)]; omega
  · have h3 := Int.tmod_eq_emod_of_nonneg (b := n) h
    have h1 := Int.emod_nonneg a (show n ≠ 0 by omega)
    split <;> omega

theorem tmod_bd (a n : Int) (hn : 0 < n) : -n ≤ a.tmod n ∧ a.tmod n < n := by
  have h1 := Int.emod_nonneg a (show n ≠ 0 by omega)
  have h2 := Int.emod_lt_of_pos a hn
  have h := tmod_up a n hn
  split at h <;> omega

theorem within1_any (a n : Int) (w : World) (hn : 0 < n) (hn2 : n ≤ 1000000) :
    Calls Try.prog 14 #[.int .i64 a, .int .i64 n] w fun e w' => e = .returned (.int .i64 (a % n)) ∧ w = w' := by
  have hu := hid (tmod_up a n hn)
  have hb := tmod_bd a n hn
  have h0 : (n == 0) = false := by simp; omega
  by_cases hlt : a.tmod n < 0
  · have he := hid (hu.out)
    go_enter Try.func14, Try.ntmps14
    go_wp2
    go_ret
    have h := he.out
    rw [if_pos (by omega)] at h
    exact ⟨by rw [← h]; rfl, rfl⟩
  · have he := hid (hu.out)
    go_enter Try.func14, Try.ntmps14
    go_wp2
    go_ret
    have h := he.out
    rw [if_neg (by omega)] at h
    exact ⟨by rw [← h]; rfl, rfl⟩

theorem lem2 : le (IntKind.u64.wrap (-2)) 8 = [254, 255, 255, 255, 255, 255, 255, 255] := by decide +kernel

theorem Made.bs {w w' : World} {l : List UInt8} {p : Option Addr} {n c : Nat} (hn : n = l.length) (ho : w'.ownsRow w.heap.size 5 1 (.slice p n c) n (bv l)) : Bs w' (.slice p n c) l := by
  subst hn; exact Rd.of_own ho

theorem known1_any (w : World) : Calls Try.prog 13 #[] w fun e w' => e = .returned (.bool true) ∧ Below w.heap.size w w' := by
  have h1 := hid (cInt_any (.slice none 0 0) [] (-2) w (Rd.nil _ _) (by simp))
  have h2 := hid (fun w1 => cText_any (.slice none 0 0) [] ⟨#[97, 98]⟩ w1 (Rd.nil _ _) (by simp) (by decide))
  go_enter Try.func13, Try.ntmps13
  go_wp2_with (first
    | (go_at_call 21; refine h1.out.mono ?_; rintro e1 w1 ⟨p1, n1, c1, rfl, hn, hb, ho⟩; have hn' : n1 = 8 := hn; subst hn'; have HB := hid hb; have HP := hid (Made.bs hn ho); obtain ⟨bb, off, rfl, hcell⟩ := Rd.addr HP.out (by decide); have hc0 : w1.cell? ⟨bb, off, none⟩ = some (.int .u8 254) := hcell 0 _ (by rw [List.nil_append, lem2]; rfl); have hc7 : w1.cell? ⟨bb, off + 7, none⟩ = some (.int .u8 255) := hcell 7 _ (by rw [List.nil_append, lem2]; rfl); clear hcell hb ho hn)
    | (go_at_call 15; refine (h2.out _).mono ?_; rintro e2 w2 ⟨p2, n2, c2, rfl, hn, hb, ho⟩; have hn' : n2 = 4 := hn; subst hn'; have HB2 := hid hb; clear hb ho hn))
  go_ret
  exact ⟨rfl, HB.out.trans (HB2.out.mono HB.out.size)⟩
end Go.Proofs.Ytgikaocimconlaa
