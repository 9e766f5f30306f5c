/- triadlaw2.DiskRows: the walk. -/
import Derived.Test.YtgikaocimconlaaLaw2
import Derived.Test.YtgikaocimconlaaArgs
namespace Go.Proofs.Ytgikaocimconlaa
open Go.RowKit
set_option linter.unusedVariables false

theorem clampN_of {x : Int} {k : Nat} (h : x = (k : Int)) (h1 : 1 ≤ k) (h2 : k ≤ 3000) : clampN x = k := by unfold clampN; omega
theorem dWrite_bad (w : World) (d : Nat) (fp : Nat → Prop) (n : Nat) (s : DS) (at_ : Int) (v : Value) (l : List UInt8) (h : Dsk w d fp n s) (hv : Bs w v l) (hl : l.length ≤ 1000000) (hd : s.dead = false) (hbad : ¬ (0 ≤ at_ ∧ at_ < n) ∨ 512 < l.length) :
    Calls Try.prog 32 #[.pointer (some ⟨d, 0, none⟩), .int .i64 at_, v] w fun e w' => e = .returned (.int .i64 1) ∧ w = w' := by
  have h1 := dWrite_err w d fp n s at_ v l h hv hl (.inr hbad)
  rw [if_neg (by rw [hd]; simp)] at h1
  exact h1
theorem dRead_bad (w : World) (d : Nat) (fp : Nat → Prop) (n : Nat) (s : DS) (at_ : Int) (h : Dsk w d fp n s) (hd : s.dead = false) (hbad : ¬ (0 ≤ at_ ∧ at_ < n)) :
    Calls Try.prog 34 #[.pointer (some ⟨d, 0, none⟩), .int .i64 at_] w fun e w' => e = .returned (.tuple #[.slice none 0 0, .int .i64 1]) ∧ w = w' := by
  have h1 := dRead_err w d fp n s at_ h (.inr hbad)
  rw [if_neg (by rw [hd]; simp)] at h1
  exact h1
theorem bv_nil_of_rep (n : Nat) : bv (List.replicate n 0) = bv (List.replicate n 0) := rfl

set_option maxRecDepth 100000 in
set_option maxHeartbeats 1600000 in
theorem diskRows_walk (a0 a1 a2 : Int) (w : World) (w0 : (Lit.int .i64 a0).wf = true) (w1 : (Lit.int .i64 a1).wf = true) (w2 : (Lit.int .i64 a2).wf = true) :
    Calls Try.prog 9 #[.int .i64 a0, .int .i64 a1, .int .i64 a2] w fun e w' => e = .returned (.bool true) ∧ Below w.heap.size w w' := by
  clear w0 w1 w2
  go_enter Try.func9, Try.ntmps9
  go_wp2_with fail
  refine (known2_any _).mono ?_; rintro e1 w1 ⟨rfl, hb1⟩; have B1 := hid hb1; clear hb1
  go_wp2_with fail
  refine (within2_any _ _ _ (by omega) (by omega)).mono ?_; rintro e1 wx ⟨rfl, rfl⟩
  have m1 := Int.emod_nonneg a0 (show (9 : Int) ≠ 0 by omega); have m2 := Int.emod_lt_of_pos a0 (show (0 : Int) < 9 by omega); generalize a0 % 9 = x at m1 m2 ⊢
  obtain ⟨x, rfl⟩ := Int.eq_ofNat_of_zero_le m1
  go_wp2_with fail
  refine (within2_any _ _ _ (by omega) (by omega)).mono ?_; rintro e1 wx ⟨rfl, rfl⟩
  have m3 := Int.emod_nonneg a1 (show (20 : Int) ≠ 0 by omega); have m4 := Int.emod_lt_of_pos a1 (show (0 : Int) < 20 by omega); generalize a1 % 20 = y at m3 m4 ⊢
  obtain ⟨y, rfl⟩ := Int.eq_ofNat_of_zero_le m3
  go_wp2_with fail
  refine (within2_any _ _ _ (by omega) (by omega)).mono ?_; rintro e1 wx ⟨rfl, rfl⟩
  have m5 := Int.emod_nonneg a2 (show (9 : Int) ≠ 0 by omega); have m6 := Int.emod_lt_of_pos a2 (show (0 : Int) < 9 by omega); generalize a2 % 9 = z at m5 m6 ⊢
  obtain ⟨z, rfl⟩ := Int.eq_ofNat_of_zero_le m5
  go_wp2_with fail
  refine (dNew_any _ _).mono ?_; rintro e1 w2 ⟨d, rfl, hd, hb2, hl⟩
  rw [show clampN (1 + (x : Int)) = x + 1 from clampN_of (by omega) (by omega) (by omega)] at hd
  have D1 := hid (hd.chg (Chg.alloc NoFp w2 (.cells #[Value.int .u8 1] 5)) (fun _ _ h => h)); have B2 := hid ((B1.out.trans (hb2.mono B1.out.size)).alloc (Nat.le_trans B1.out.size hb2.size) (.cells #[Value.int .u8 1] 5))
  have F1 := hid (fun k (h : w1.heap.size ≤ k ∧ k < w2.heap.size) => (show w.heap.size ≤ k from Nat.le_trans B1.out.size h.1))
  clear hd hb2
  go_wp2_with fail
  refine (dWrite_bad _ d _ _ _ _ _ [1] D1.out (Rd.fresh1 _ _ _) (by simp) rfl (.inl (by omega))).mono ?_; rintro e1 w3 ⟨rfl, hw⟩
  rw [hw] at D1 B2; clear hw
  have D2 := hid (D1.out.chg (Chg.alloc NoFp _ (.cells #[Value.int .u8 1] 5)) (fun _ _ h => h)); have B3 := hid (B2.out.alloc B2.out.size (.cells #[Value.int .u8 1] 5))
  clear D1 B2
  go_wp2_with fail
  refine (dWrite_bad _ d _ _ _ _ _ [1] D2.out (Rd.fresh1 _ _ _) (by simp) rfl (.inl (by omega))).mono ?_; rintro e1 w4 ⟨rfl, hw⟩
  rw [hw] at D2 B3; clear hw
  have hL : 513 + (z : Int) = ((513 + z : Nat) : Int) := by omega
  have HL := hid hL; clear hL
  go_wp2_with (at_make; refine wpList_make_blk rfl _ _ 24 rfl 5 _ 1 1 Try.underlying24 infoU8 _ _ _ _ (513 + z) rfl rfl HL.out HL.out (by omega) (by simp only [maxLen]; omega) ?_; intro w5 hh hb3 hl3; rw [made_bytes] at hh; have HM := hid hh; have D3 := hid (D2.out.chg (Chg.new hb3 NoFp) (fun _ _ h => h)); have B4 := hid (B3.out.trans (hb3.mono B3.out.size)); clear hh hb3 D2 B3)
  refine (dWrite_bad _ d _ _ _ _ _ (List.replicate (513 + z) 0) D3.out (Bs.blk HM.out (by simp) (by simp only [maxLen]; omega)) (by simp; omega) rfl (.inr (by simp; omega))).mono ?_; rintro e1 w6 ⟨rfl, hw⟩
  rw [hw] at D3 B4; clear hw
  go_wp2_with fail
  refine (dRead_bad _ d _ _ _ _ D3.out rfl (by omega)).mono ?_; rintro e1 w7 ⟨rfl, hw⟩
  rw [hw] at D3 B4; clear hw
  go_wp2_with fail
  refine (dRead_bad _ d _ _ _ _ D3.out rfl (by omega)).mono ?_; rintro e1 w8 ⟨rfl, hw⟩
  rw [hw] at D3 B4; clear hw
  have hL2 : 512 - (z : Int) = ((512 - z : Nat) : Int) := by omega
  have HL2 := hid hL2; clear hL2
  go_wp2_with (at_make; refine wpList_make_blk rfl _ _ 24 rfl 5 _ 1 1 Try.underlying24 infoU8 _ _ _ _ (512 - z) rfl rfl HL2.out HL2.out (by omega) (by simp only [maxLen]; omega) ?_; intro w9 hh hb3 hl3; rw [made_bytes] at hh; have HM9 := hid hh; have D4 := hid (D3.out.chg (Chg.new hb3 NoFp) (fun _ _ h => h)); have B5 := hid (B4.out.trans (hb3.mono B4.out.size)); clear hh hb3 D3 B4)
  have hx : 1 + (x : Int) - 1 = ((x : Nat) : Int) := by omega
  have h9 := dWrite_any _ d _ _ _ (1 + (x : Int) - 1) _ (List.replicate (512 - z) 0) D4.out (Bs.blk (n := 512 - z) HM9.out (by simp) (by simp only [maxLen]; omega)) (by simp; omega) (by simp [dNew])
  rw [show dWrite (x + 1) (dNew (x + 1)) (1 + (x : Int) - 1) (List.replicate (512 - z) 0) = dWrite (x + 1) (dNew (x + 1)) (x : Int) (List.replicate (512 - z) 0) by rw [hx], dWrite_calm (n := x + 1) (s := dNew (x + 1)) rfl (by simp [dNew]) (by omega) (by simp)] at h9
  have H9 := hid h9
  clear h9 hx
  refine H9.out.mono ?_
  rintro e2 w10 ⟨rfl, fp2, hd2, hc2, hf2⟩
  have D5 := hid hd2
  have B6 := hid (B5.out.trans (hc2.below F1 B5.out.size))
  clear hd2 hc2 hf2
  have ho : (dStep (dWritten (dNew (x + 1)) x (List.replicate (512 - z) 0))).ops = 1 := by rw [dStep_ops]; rfl
  have H10 := dOps_any w10 d _ _ _ D5.out
  rw [ho] at H10
  have H10 := hid H10
  clear ho H9
  go_wp2_with (go_at_call 35; refine H10.out.mono ?_; rintro e1 w11 ⟨rfl, hw⟩; rw [hw] at B6; clear hw)
  go_ret
  exact ⟨rfl, B6.out⟩
end Go.Proofs.Ytgikaocimconlaa
