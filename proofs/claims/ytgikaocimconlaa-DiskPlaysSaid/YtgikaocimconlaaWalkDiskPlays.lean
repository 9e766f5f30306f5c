/- triadlaw2.DiskPlays: the walk. -/
import Derived.Test.YtgikaocimconlaaDo2
namespace Go.Proofs.Ytgikaocimconlaa
open Go.RowKit
set_option linter.unusedVariables false

def PlayAt (B d x n : Nat) (j : Nat) (w wr : World) : Prop := ∃ fp fx s, Pair B d x n (j : Int) s fp fx wr ∧ Below B w wr

theorem act_own {w : World} {v : Value} {size n : Nat} {xs : List Value} (h : Rd w size v n xs) (hs : 0 < size) (g : Nat) (hg : v.ownBlock = some g) (hn : 0 < n) : g < w.heap.size := h.lt hn hs g hg

set_option maxRecDepth 100000 in
set_option maxHeartbeats 4000000 in
theorem diskPlays_walk (a0 : Int) (a1 : Option Addr) (len1 cap1 : Nat) (z1 : List ActD) (w : World) (w0 : (Lit.int .i64 a0).wf = true) (w1 : IsActs w a1 len1 cap1 z1) :
    Calls Try.prog 11 #[.int .i64 a0, .slice a1 len1 cap1] w fun e w' => e = .returned (.bool true) ∧ Below w.heap.size w w' := by
  have HA := hid w1
  clear w0 w1
  go_enter Try.func11, Try.ntmps11
  go_wp2_with fail
  refine (known2_any _).mono ?_; rintro e1 w1 ⟨rfl, hb1⟩; have B1 := hid hb1; clear hb1
  go_wp2_with fail
  have h1 : IsActs w1 a1 len1 cap1 z1 := ⟨HA.out.1, HA.out.2.1, fun i hi => by
    obtain ⟨ab, ao, d, h2, h3, h4⟩ := HA.out.2.2 i hi
    exact ⟨ab, ao, d, h2, h3, h4.below (Nat.le_refl _) B1.out⟩⟩
  refine (few_any w1 a1 len1 cap1 z1 h1).mono ?_; clear h1
  unfold FewPost
  rintro e1 wx ⟨b, rfl, hw, hfew⟩
  subst hw
  rcases Bool.eq_false_or_eq_true b with hb | hb
  rotate_left
  · subst hb
    clear hfew
    go_wp2_with fail
    go_ret
    exact ⟨rfl, B1.out⟩
  subst hb
  have FEW := hid (hfew rfl)
  clear hfew
  have hm0 : 0 ≤ a0 % 9 := Int.emod_nonneg _ (by omega)
  have hm1 : a0 % 9 < 9 := Int.emod_lt_of_pos _ (by omega)
  have e9 : ∀ w, Calls Try.prog 33 #[.int .i64 a0, .int .i64 9] w fun e w' => e = .returned (.int .i64 (a0 % 9)) ∧ w = w' := fun w => within2_any a0 9 w (by omega) (by omega)
  generalize a0 % 9 = M at hm0 hm1 e9
  have E9 := hid e9
  clear e9
  go_wp2_with fail
  refine (E9.out _).mono ?_; rintro e1 wx ⟨rfl, hw⟩
  subst hw
  go_wp2_with fail
  refine (dNew_any _ _).mono ?_; rintro e1 w2 ⟨d, rfl, hd, hb2, hl2⟩
  have DD := hid hd
  have B2 := hid hb2
  clear hd hb2 hl2
  go_wp2_with fail
  refine (E9.out _).mono ?_; rintro e1 wx ⟨rfl, hw⟩
  subst hw
  go_wp2_with fail
  refine (xNew_any _ _).mono ?_; rintro e1 w3 ⟨x, rfl, hx, hb3, hl3⟩
  have hc : clampN (1 + M) = (1 + M).toNat := by unfold clampN; omega
  have hn1 : 1 ≤ clampN (1 + M) := by omega
  have hn2 : clampN (1 + M) ≤ 3000 := by omega
  clear hc
  generalize clampN (1 + M) = n at hn1 hn2 hx DD
  have PL : Hid (PlayAt w.heap.size d x n 0 w w3) := hid ⟨_, _, _, ⟨DD.out.chg (Chg.new hb3 NoFp) (fun _ _ h => h), hx, fun k h1 h2 => by omega, fun k h1 => Nat.le_trans B1.out.size h1.1, fun k h1 => Nat.le_trans B1.out.size (Nat.le_trans B2.out.size h1.1), by simp [dNew], Nat.le_trans B1.out.size (Nat.le_trans B2.out.size hb3.size)⟩,
    B1.out.trans ((B2.out.mono B1.out.size).trans (hb3.mono (Nat.le_trans B1.out.size B2.out.size)))⟩
  clear hx hb3 hl3 DD B1 B2 E9
  go_wp2_with fail
  have hl60 := FEW.out.1
  go_loopw [7] (fun i wr => ∃ j : Nat, j ≤ len1 ∧ i = .int .i64 j ∧ PlayAt w.heap.size d x n j w wr) (fun i _ => len1 + 1 - (intOf i).toNat)
  case atStart => exact ⟨0, Nat.zero_le _, rfl, PL.out⟩
  case round =>
    obtain ⟨j, hj, rfl, hp⟩ := hrel
    have P3 := hid hp
    clear hp PL
    by_cases hlt : j < len1
    · obtain ⟨ab, ao, q, ha, hq, hat⟩ := HA.out.2.2 j hlt
      have hfq := FEW.out.2 j q hq
      obtain ⟨fp, fx, s, hpair, hbel⟩ := P3.out
      obtain ⟨pb, cb, pk, ck, c0, c1, c2, c3, c4, h1, h2⟩ := hat.below (Nat.le_refl _) hbel
      obtain ⟨qb, rb, qk, rk, k0, k1, k2, k3, k4, h3, h4⟩ := hat
      have hab : ab < w.heap.size := World.block_lt_of_cell? w ⟨ab, ao + j * 5, none⟩ k0
      have hk3 := (hbel.cell (p := ⟨ab, ao + j * 5 + 3, none⟩) hab).symm.trans c3
      have hk4 := (hbel.cell (p := ⟨ab, ao + j * 5 + 4, none⟩) hab).symm.trans c4
      rw [k3] at hk3
      rw [k4] at hk4
      have QQ : Hid (Acting wr w.heap.size q pb cb pk ck) := hid ⟨h1, h2, hfq, fun g hg hl => by injection hk3 with hk3; rw [← hk3] at hg; exact act_own h3 (by decide) g hg hl, fun g hg hl => by injection hk4 with hk4; rw [← hk4] at hg; exact act_own h4 (by decide) g hg hl⟩
      have HP := hid hpair
      have BB := hid hbel
      clear h1 h2 h3 h4 k0 k1 k2 k3 k4 hk3 hk4 hab hpair hbel hq hfq P3
      subst ha
      go_wp2_with fail
      refine (do_any wr w.heap.size d x n (j : Int) s fp fx q pb cb pk ck HP.out QQ.out (by omega)).mono ?_
      rintro e1 w5 ⟨rfl, fp2, fx2, s2, hp5, hb5⟩
      have P5 := hid hp5
      have B5 := hid (BB.out.trans hb5)
      clear hp5 hb5 HP QQ BB c0 c1 c2 c3 c4
      go_wp2_with fail
      refine (same_any w5 d x fp2 fx2 n s2 P5.out.hd P5.out.hx).mono ?_
      rintro e1 w6 ⟨rfl, hb6⟩
      have P6 := hid (P5.out.new hb6)
      have B6 := hid (B5.out.trans (hb6.mono P5.out.base))
      clear hb6 P5 B5
      go_wp2_with fail
      go_roundw
      case rel => exact ⟨j + 1, by omega, by go_num, fp2, fx2, s2, ⟨P6.out.hd, P6.out.hx, P6.out.dj, P6.out.bd, P6.out.bx, by have := P6.out.ops; push_cast; omega, P6.out.base⟩, B6.out⟩
      case measure => simp [intOf]; omega
    · go_wp2_with fail
      refine (dNew_any _ _).mono ?_; rintro e1 w5 ⟨d2, rfl, hd5, hb5, hl5⟩
      have B5 := hid hb5
      clear hb5 hl5
      go_wp2_with fail
      refine (dSize_any _ d2 _ _ _ hd5).mono ?_; rintro e1 wx ⟨rfl, hw⟩
      subst hw
      clear hd5
      go_wp2_with fail
      refine (xNew_any _ _).mono ?_; rintro e1 w6 ⟨x2, rfl, hd6, hb6, hl6⟩
      have B6 := hid hb6
      clear hb6 hl6
      go_wp2_with fail
      refine (xSize_any _ x2 _ _ _ hd6).mono ?_; rintro e1 wx ⟨rfl, hw⟩
      subst hw
      clear hd6
      go_wp2_with fail
      go_ret
      obtain ⟨fp, fx, s, hpair, hbel⟩ := P3.out
      have hs := hbel.size
      exact ⟨rfl, hbel.trans ((B5.out.mono hs).trans (B6.out.mono (Nat.le_trans hs B5.out.size)))⟩
end Go.Proofs.Ytgikaocimconlaa
