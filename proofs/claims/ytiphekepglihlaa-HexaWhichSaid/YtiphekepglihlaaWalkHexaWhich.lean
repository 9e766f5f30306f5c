/- triadlaw8.HexaWhich: the walk. -/
import Derived.Test.YtiphekepglihlaaPagO
import Derived.Test.YtiphekepglihlaaWhich
namespace Go.Proofs.Ytiphekepglihlaa
open Go.RowKit
set_option linter.unusedVariables false

theorem which_fine (z : Nat → Bool) : whichO z < 6 ∧ fineO z (oo (whichO z)) = true := by
  rcases h0 : z 0 <;> rcases h1 : z 1 <;> rcases h2 : z 2 <;> simp [whichO, firstO, fineO, oo, h0, h1, h2]
theorem goO_ok {z : Nat → Bool} {o : Nat → Nat} (h : fineO z o = true) {m : Nat} (hm : m < 3) (hz : z (o m) = false) : (goO z o m).1 = false := by
  unfold fineO at h
  rcases m with _ | _ | _ | m
  · rfl
  · simp only [goO]
    cases h0 : z (o 0)
    · rfl
    · rw [h0, hz] at h; simp at h
  · simp only [goO]
    cases h0 : z (o 0) <;> cases h1 : z (o 1) <;> rw [h0, h1, hz] at h <;> first | rfl | (simp at h)
  · omega
theorem which_050 : whichO (fun j => tri 0 5 0 j == 0) = 2 := by decide

theorem ord_index {k : Nat} (hk : k < 6) (w : World) : (Instr.index 25 (.agg ordCells.toArray) (.int .i64 k)).run Try.prog w = .ok (.agg #[.int .i64 (oo k 0), .int .i64 (oo k 1), .int .i64 (oo k 2)]) w := by
  rcases k with _ | _ | _ | _ | _ | _ | k <;> first | omega | kernel_rfl

set_option maxRecDepth 100000 in
theorem known8_any (w : World) : Calls Try.prog 11 #[] w fun e w' => e = .returned (.bool true) ∧ Below w.heap.size w w' := by
  have HW := hid (hWhich_any w 0 5 0)
  rw [which_050] at HW
  unfold i3 at HW
  go_enter Try.func11, Try.ntmps11
  go_wp2_with fail
  refine HW.out.mono ?_
  rintro e1 w1 ⟨rfl, hb1⟩
  have B1 := hid hb1
  clear hb1
  go_wp2_with fail
  refine (open5_any w1).mono ?_
  rintro e2 w2 ⟨p, rfl, hb2⟩
  have B2 := hid (B1.out.trans (hb2.mono B1.out.size))
  clear hb2
  go_wp2_with fail
  go_ret
  exact ⟨rfl, B2.out⟩

set_option maxRecDepth 100000 in
set_option maxHeartbeats 4000000 in
theorem hexaWhich_walk (a b c : Int) (w : World) : Calls Try.prog 3 #[i3 a b c] w fun e w' => e = .returned (.bool true) ∧ Below w.heap.size w w' := by
  unfold i3
  go_enter Try.func3, Try.ntmps3
  go_wp2_with fail
  have HB0 : Hid (Below w.heap.size w (w.alloc (Obj.cells #[Value.int IntKind.i64 a, Value.int IntKind.i64 b, Value.int IntKind.i64 c] 22))) := hid ((Below.refl _ _).alloc (Nat.le_refl _) _)
  have HT0 : Hid (Blk (w.alloc (Obj.cells #[Value.int IntKind.i64 a, Value.int IntKind.i64 b, Value.int IntKind.i64 c] 22)) w.heap.size [.int .i64 a, .int .i64 b, .int .i64 c] 22) := hid (heap_alloc_new w _)
  generalize w.alloc (Obj.cells #[Value.int IntKind.i64 a, Value.int IntKind.i64 b, Value.int IntKind.i64 c] 22) = w0 at *
  refine (known8_any _).mono ?_
  rintro e1 w1 ⟨rfl, hb⟩
  have B1 := hid (HB0.out.trans (hb.mono HB0.out.size))
  have T1 := hid (HT0.out.chg (Chg.new hb (fun _ => False)) (fun h => h))
  clear hb HB0 HT0
  obtain ⟨c0, c1, c2⟩ := three_cells T1.out
  go_wp2_with fail
  have HW := hid (hWhich_any w1 a b c)
  unfold i3 at HW
  refine HW.out.mono ?_
  clear HW
  rintro e2 w2 ⟨rfl, hb⟩
  have B2 := hid (B1.out.trans (hb.mono B1.out.size))
  have T2 := hid (T1.out.chg (Chg.new hb (fun _ => False)) (fun h => h))
  clear hb B1 T1 c0 c1 c2
  obtain ⟨c0, c1, c2⟩ := three_cells T2.out
  obtain ⟨hk6, hkf⟩ := which_fine (fun j => tri a b c j == 0)
  have HKF := hid hkf
  clear hkf
  go_wp2_with fail
  have HW := hid (rWhich_any w2 a b c)
  unfold i3 at HW
  refine HW.out.mono ?_
  clear HW
  rintro e3 w3 ⟨rfl, hb⟩
  have B3 := hid (B2.out.trans (hb.mono B2.out.size))
  have T3 := hid (T2.out.chg (Chg.new hb (fun _ => False)) (fun h => h))
  clear hb B2 T2 c0 c1 c2
  generalize hk : whichO (fun j => tri a b c j == 0) = k at *
  clear hk
  have k0 : ¬ (k : Int) < 0 := by omega
  have k5 : ¬ (k : Int) > 5 := by omega
  have k5' : ¬ (5 : Int) < (k : Int) := by omega
  go_wp2_with fail
  refine (refOrders_any w3).mono ?_
  rintro e4 w4 ⟨rfl, hb⟩
  have B4 := hid (B3.out.trans (hb.mono B3.out.size))
  have T4 := hid (T3.out.chg (Chg.new hb (fun _ => False)) (fun h => h))
  clear hb B3 T3 k0 k5 k5'
  have hix := ord_index hk6
  go_wp2_with fail
  have T5 : Hid (Blk (w4.alloc (Obj.cells #[Value.int IntKind.i64 ↑(oo k 0), Value.int IntKind.i64 ↑(oo k 1), Value.int IntKind.i64 ↑(oo k 2)] 22)) w.heap.size [.int .i64 a, .int .i64 b, .int .i64 c] 22) := hid ((heap_alloc_old w4 _ T4.out.lt).trans T4.out)
  have O5 : Hid (Blk (w4.alloc (Obj.cells #[Value.int IntKind.i64 ↑(oo k 0), Value.int IntKind.i64 ↑(oo k 1), Value.int IntKind.i64 ↑(oo k 2)] 22)) w4.heap.size [.int .i64 (oo k 0), .int .i64 (oo k 1), .int .i64 (oo k 2)] 22) := hid (heap_alloc_new w4 _)
  have B5 : Hid (Below w.heap.size w (w4.alloc (Obj.cells #[Value.int IntKind.i64 ↑(oo k 0), Value.int IntKind.i64 ↑(oo k 1), Value.int IntKind.i64 ↑(oo k 2)] 22))) := hid (B4.out.alloc B4.out.size _)
  generalize w4.alloc (Obj.cells #[Value.int IntKind.i64 ↑(oo k 0), Value.int IntKind.i64 ↑(oo k 1), Value.int IntKind.i64 ↑(oo k 2)] 22) = w5 at *
  clear hix T4 B4
  generalize hz : (fun j => tri a b c j == 0) = z at *
  have HZ := hid hz
  clear hz
  go_loopw [2, 5, 6] (fun r g i wr => ∃ m : Nat, m ≤ 3 ∧ i = .int .i64 m ∧ g = .bool (goO z (oo k) m).1 ∧ w5 = wr) (fun _ _ i _ => 4 - (intOf i).toNat)
  case atStart => exact ⟨0, by omega, rfl, rfl, rfl⟩
  case round =>
    obtain ⟨m, hm, rfl, rfl, rfl⟩ := hrel
    by_cases hlm : m < 3
    · have hc1 := oo_cells O5.out hlm
      have hol := oo_lt k m
      have hc2 := tri_cells T5.out hol
      have GS := hid (goO_succ z (oo k) m)
      have hzz : (tri a b c (oo k m) == 0) = z (oo k m) := by rw [← HZ.out]
      cases hzo : z (oo k m)
      · have hgo := goO_ok HKF.out hlm hzo
        rw [hzo] at hzz
        have HZO := hid hzo
        clear hzo
        rw [hgo]
        have HGO := hid hgo
        clear hgo
        go_wp2_with fail
        go_roundw
        case rel => exact ⟨m + 1, by omega, by go_num, by rw [GS.out, HZO.out, HGO.out]; rfl, trivial⟩
        case measure => simp [intOf]; omega
      · rw [hzo] at hzz
        have HZO := hid hzo
        clear hzo
        go_wp2_with fail
        go_roundw
        case rel => exact ⟨m + 1, by omega, by go_num, by rw [GS.out, HZO.out]; rfl, trivial⟩
        case measure => simp [intOf]; omega
    · obtain rfl : m = 3 := by omega
      go_wp2_with fail
      go_ret
      exact ⟨rfl, B5.out⟩
end Go.Proofs.Ytiphekepglihlaa
