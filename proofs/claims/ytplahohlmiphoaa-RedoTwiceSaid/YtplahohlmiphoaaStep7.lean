/- triadref1.Int: a number's eight bytes. -/
import Derived.Test.YtplahohlmiphoaaStep6
import Derived.Test.YtplahohlmiphoaaCodeC
namespace Go.Proofs.Ytplahohlmiphoaa
open Go.RowKit
set_option linter.unusedVariables false

set_option maxRecDepth 100000 in
set_option maxHeartbeats 2000000 in
theorem xcEnc_any (base : Nat) (v : Value) (l : List UInt8) (u : Int) (w : World) (hown : w.ownsRow base 5 1 v l.length (bv l)) (hbase : base ≤ w.heap.size) (hl : l.length ≤ 1000) :
    Calls Try.prog 54 #[v, .int .i64 u] w fun e w' => ∃ v', e = .returned v' ∧ w'.ownsRow base 5 1 v' (l.length + 8) (bv (l ++ le (IntKind.u64.wrap u) 8)) ∧ Below base w w' := by
  have HO := hid hown
  have HB := hid hbase
  have hu := u64_bd u
  clear hown hbase
  go_enter Try.func54, Try.ntmps54
  go_wp2_with fail
  go_loopw [0, 5] (fun x i wr => ∃ k : Nat, k ≤ 8 ∧ i = .int .i64 k ∧ wr.ownsRow base 5 1 x (l.length + k) (bv (l ++ le (IntKind.u64.wrap u) k)) ∧ Below base w wr ∧ base ≤ wr.heap.size) (fun _ i _ => 9 - (intOf i).toNat)
  case atStart => exact ⟨0, by omega, rfl, by simpa [le] using HO.out, Below.refl _ _, HB.out⟩
  case round =>
    obtain ⟨k, hk, rfl, ho, hb, hs⟩ := hrel
    have O1 := hid ho
    have B1 := hid hb
    have S1 := hid hs
    clear ho hb hs
    by_cases hlt : k < 8
    · go_wp2_with (at_builtin; refine wp_keep ?_)
      refine hid ?_
      refine wpList_append_rd rfl _ _ 26 rfl base 5 _ 1 1 Try.underlying26 infoU8 rfl (by decide) _ (l.length + k) (bv (l ++ le (IntKind.u64.wrap u) k)) rfl (O1.out.alloc _) _ 1 [.int .u8 (IntKind.u64.wrap u / 2 ^ (8 * k) % 256)] rfl (Rd.fresh1 _ _ _) (by simp [Value.oneCell']) (by simp only [maxLen]; omega) (by omega) (Nat.le_trans S1.out (by simp)) ?_
      intro pp cc w7 hown7 hg7 hb7
      have O7 := hid hown7
      have G7 := hid hg7
      clear hown7 hg7 hb7
      go_wp2_with fail
      go_roundw
      case rel =>
        have hbase : base ≤ (wr.alloc (Obj.cells #[.int .u8 (IntKind.u64.wrap u / 2 ^ (8 * k) % 256)] 5)).heap.size := Nat.le_trans S1.out (by simp)
        refine ⟨k + 1, by omega, by go_num, ?_, (B1.out.alloc S1.out _).grown G7.out hbase (fun g hg => (O1.out.lt g hg).1), Nat.le_trans hbase G7.out.size⟩
        rw [bv_append, le_succ, ← List.append_assoc, ← bv_append]
        exact O7.out
      case measure => simp [intOf]; omega
    · obtain rfl : k = 8 := by omega
      go_wp2_with fail
      go_ret
      exact ⟨_, rfl, O1.out, B1.out⟩
end Go.Proofs.Ytplahohlmiphoaa
