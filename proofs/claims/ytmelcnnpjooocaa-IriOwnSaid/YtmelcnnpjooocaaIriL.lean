/- triadlaw10: known, within, Ref. -/
import Derived.Test.YtmelcnnpjooocaaIriU
import Derived.Test.YtmelcnnpjooocaaTmod
import Derived.Test.YtmelcnnpjooocaaArgs
namespace Go.Proofs.Ytmelcnnpjooocaa
open Go.RowKit
set_option linter.unusedVariables false

theorem within10_any (a n : Int) (w : World) (hn : 0 < n) (hn2 : n ≤ 1000000) :
    Calls Try.prog 13 #[.int .i64 a, .int .i64 n] w fun e w' => e = .returned (.int .i64 (a % n)) ∧ w = w' := by
  have hu := hid (tmod_up a n hn)
  have hb := tmod_bd a n hn
  have h0 : (n == 0) = false := by simp; omega
  by_cases hlt : a.tmod n < 0
  · have he := hid (hu.out)
    go_enter Try.func13, Try.ntmps13
    go_wp2
    go_ret
    have h := he.out
    rw [if_pos (by omega)] at h
    exact ⟨by rw [← h]; rfl, rfl⟩
  · have he := hid (hu.out)
    go_enter Try.func13, Try.ntmps13
    go_wp2
    go_ret
    have h := he.out
    rw [if_neg (by omega)] at h
    exact ⟨by rw [← h]; rfl, rfl⟩

theorem known_eq : resolve [104, 116, 116, 112, 58, 47, 47, 97, 47, 98, 47, 99, 47, 100] [46, 46, 47, 103] = [104, 116, 116, 112, 58, 47, 47, 97, 47, 98, 47, 103] := by kernel_rfl

theorem known10_any (w : World) : Calls Try.prog 7 #[] w fun e w' => e = .returned (.bool true) ∧ Below w.heap.size w w' := by
  go_enter Try.func7, Try.ntmps7
  go_wp2_with fail
  refine (iResolve_any [104, 116, 116, 112, 58, 47, 47, 97, 47, 98, 47, 99, 47, 100] [46, 46, 47, 103] _ (by decide) (by decide)).mono ?_; rintro e1 w1 ⟨rfl, hb1⟩
  rw [known_eq]
  have B1 := hid hb1
  clear hb1
  go_wp2_with fail
  go_ret
  exact ⟨rfl, B1.out⟩

theorem piece (q : Nat) (hq : q < 14) : ∃ pc : List UInt8, pc.length ≤ 5 ∧ ∀ h, ([Value.string ⟨#[97]⟩, .string ⟨#[98]⟩, .string ⟨#[47]⟩, .string ⟨#[46, 46]⟩, .string ⟨#[46]⟩, .string ⟨#[58]⟩, .string ⟨#[63]⟩, .string ⟨#[35]⟩, .string ⟨#[47, 47]⟩, .string ⟨#[104, 116, 116, 112, 58]⟩, .string ⟨#[120, 61, 121]⟩, .string ⟨#[47, 46, 46, 47]⟩, .string ⟨#[46, 47]⟩, .string ⟨#[]⟩])[q]'h = .string (B pc) := by
  rcases (show q = 0 ∨ q = 1 ∨ q = 2 ∨ q = 3 ∨ q = 4 ∨ q = 5 ∨ q = 6 ∨ q = 7 ∨ q = 8 ∨ q = 9 ∨ q = 10 ∨ q = 11 ∨ q = 12 ∨ q = 13 by omega) with h | h | h | h | h | h | h | h | h | h | h | h | h | h <;> subst h
  · exact ⟨[97], by decide, fun _ => rfl⟩
  · exact ⟨[98], by decide, fun _ => rfl⟩
  · exact ⟨[47], by decide, fun _ => rfl⟩
  · exact ⟨[46, 46], by decide, fun _ => rfl⟩
  · exact ⟨[46], by decide, fun _ => rfl⟩
  · exact ⟨[58], by decide, fun _ => rfl⟩
  · exact ⟨[63], by decide, fun _ => rfl⟩
  · exact ⟨[35], by decide, fun _ => rfl⟩
  · exact ⟨[47, 47], by decide, fun _ => rfl⟩
  · exact ⟨[104, 116, 116, 112, 58], by decide, fun _ => rfl⟩
  · exact ⟨[120, 61, 121], by decide, fun _ => rfl⟩
  · exact ⟨[47, 46, 46, 47], by decide, fun _ => rfl⟩
  · exact ⟨[46, 47], by decide, fun _ => rfl⟩
  · exact ⟨[], by decide, fun _ => rfl⟩

set_option maxRecDepth 100000 in
set_option maxHeartbeats 4000000 in
theorem ref_any (a : Option Addr) (len cap : Nat) (zs : List Int) (w : World) (h : IsRow .i64 w a len cap zs) :
    Calls Try.prog 8 #[.slice a len cap] w fun e w' => ∃ l : List UInt8, l.length ≤ 50 ∧ e = .returned (.string (B l)) ∧ Below w.heap.size w w' := by
  have hr1 := h.rd
  have hz1 : ∀ k, k < len → ∃ z, (zs.take len)[k]? = some z := fun k hk => by
    have h := hr1.1
    rw [List.length_map] at h
    exact ⟨_, List.getElem?_eq_getElem (by omega)⟩
  have HA1 : Hid (∀ k, k < len → ∃ ab ao z, a = some ⟨ab, ao, none⟩ ∧ w.cell? ⟨ab, ao + k, none⟩ = some (.int .i64 z) ∧ ab < w.heap.size) := hid (fun k hk => by
    obtain ⟨ab, ao, rfl, hc⟩ := hr1.addr (by omega)
    obtain ⟨z, hz⟩ := hz1 k hk
    have h1 := hc k (.int .i64 z) (by rw [List.getElem?_map, hz]; rfl)
    exact ⟨ab, ao, _, rfl, h1, World.block_lt_of_cell? w ⟨ab, ao + k, none⟩ h1⟩)
  have hlm : len ≤ 9223372036854775807 := by obtain ⟨_, p, c, he, h1, h2, _⟩ := hr1; cases he; simp only [maxLen] at h2; omega
  clear hr1 hz1 h
  go_enter Try.func8, Try.ntmps8
  go_wp2_with fail
  go_loopw [3, 4] (fun v3 i wr => ∃ (j : Nat) (l : List UInt8), j ≤ len ∧ j ≤ 10 ∧ l.length ≤ 5 * j ∧ v3 = .string (B l) ∧ i = .int .i64 j ∧ Below w.heap.size w wr) (fun _ i _ => len + 1 - (intOf i).toNat)
  case atStart => exact ⟨0, [], Nat.zero_le _, Nat.zero_le _, by simp, rfl, rfl, Below.refl _ _⟩
  case round =>
    obtain ⟨j, l, hj, hj10, hll, rfl, rfl, hb⟩ := hrel
    have BB := hid hb
    clear hb
    by_cases hlt : j < len
    · by_cases hlt10 : j < 10
      · obtain ⟨ab, ao, z, rfl, hc, hab⟩ := HA1.out j hlt
        have hcc : ∀ o, (wr.alloc o).cell? ⟨ab, ao + j, none⟩ = some (.int .i64 z) := fun o => ((BB.out.alloc BB.out.size o).cell (p := ⟨ab, ao + j, none⟩) hab).trans hc
        have E9 := hid (within10_any z 14)
        have hm0 : 0 ≤ z % 14 := Int.emod_nonneg _ (by omega)
        have hm1 : z % 14 < 14 := Int.emod_lt_of_pos _ (by omega)
        have hsz := BB.out.size
        have hab2 : ab ≠ wr.heap.size := by omega
        clear hc hab
        go_wp2_with fail
        refine (E9.out _ (by decide) (by decide)).mono ?_; rintro e1 wx ⟨rfl, hw⟩
        subst hw
        generalize z % 14 = q at hm0 hm1
        obtain ⟨q, rfl⟩ : ∃ n : Nat, q = (n : Int) := ⟨q.toNat, by omega⟩
        have hq : q < 14 := by omega
        obtain ⟨pc, hpl, hpe⟩ := piece q hq
        go_wp2_with fail
        go_roundw
        case rel => exact ⟨j + 1, l ++ pc, by omega, by omega, by rw [List.length_append]; omega, rfl, by go_num, BB.out.alloc BB.out.size _⟩
        case measure => simp [intOf]; omega
      · go_wp2_with fail
        go_ret
        exact ⟨l, by omega, rfl, BB.out⟩
    · go_wp2_with fail
      go_ret
      exact ⟨l, by omega, rfl, BB.out⟩

theorem IsRow.below {k : IntKind} {w w' : World} {a : Option Addr} {len cap : Nat} {zs : List Int} (h : IsRow k w a len cap zs) (hb : Below w.heap.size w w') : IsRow k w' a len cap zs := by
  rcases h with h | ⟨x, rfl, h1, h2, h3, h4, h5⟩
  · exact .inl h
  · refine .inr ⟨x, rfl, h1, h2, h3, fun i hi => ?_, h5⟩
    have h6 := h4 i hi
    exact (hb.cell (p := x.add i) (World.block_lt_of_cell? w _ h6)).trans h6
end Go.Proofs.Ytmelcnnpjooocaa
