/- triadlaw1.CodeLess: the walk. -/
import Derived.Test.YtgikaocimconlaaLaw1
import Derived.Test.YtgikaocimconlaaArgs
namespace Go.Proofs.Ytgikaocimconlaa
open Go.RowKit
set_option linter.unusedVariables false

theorem bv_two (x y : Int) (hx0 : 0 ≤ x) (hx : x < 256) (hy0 : 0 ≤ y) (hy : y < 256) : [Value.int .u8 x, Value.int .u8 y] = bv [UInt8.ofNat x.toNat, UInt8.ofNat y.toNat] := by
  simp only [bv, List.map_cons, List.map_nil]
  rw [u8_back x hx0 hx, u8_back y hy0 hy]

set_option maxRecDepth 100000 in
theorem codeLess_walk (a0 : Int) (a1 : Option Addr) (len1 cap1 : Nat) (z1 : List Int) (w : World) (w0 : (Lit.int .i64 a0).wf = true) (w1 : IsRow .u8 w a1 len1 cap1 z1) :
    Calls Try.prog 4 #[.int .i64 a0, .slice a1 len1 cap1] w fun e w' => e = .returned (.bool true) ∧ Below w.heap.size w w' := by
  obtain ⟨l, hlen, hb⟩ := w1.bytes
  subst hlen
  have HB := hid hb
  clear w0 w1 hb
  by_cases hl : l.length ≤ 200
  · go_enter Try.func4, Try.ntmps4
    go_wp2_with fail
    refine (known1_any _).mono ?_; rintro e1 w1 ⟨rfl, hb1⟩; have B1 := hid hb1; clear hb1
    go_wp2_with fail
    refine (within1_any _ _ _ (by omega) (by omega)).mono ?_; rintro e1 wx ⟨rfl, rfl⟩
    have m1 := Int.emod_nonneg a0 (show (300 : Int) ≠ 0 by omega); have m2 := Int.emod_lt_of_pos a0 (show (0 : Int) < 300 by omega); generalize a0 % 300 = x at m1 m2 ⊢
    obtain ⟨m, rfl⟩ := Int.eq_ofNat_of_zero_le m1
    have HT := hid (bv_two (((l.length : Int) + 1 + (m : Int)) % 256) (((l.length : Int) + 1 + (m : Int)) / 256) (by omega) (by omega) (by omega) (by omega))
    have hnum : num [UInt8.ofNat (((l.length : Int) + 1 + (m : Int)) % 256).toNat, UInt8.ofNat (((l.length : Int) + 1 + (m : Int)) / 256).toNat] = l.length + 1 + m := by
      have h1 := u8_back (((l.length : Int) + 1 + (m : Int)) % 256) (by omega) (by omega)
      have h2 := u8_back (((l.length : Int) + 1 + (m : Int)) / 256) (by omega) (by omega)
      simp only [num]
      omega
    have HN := hid hnum
    clear hnum
    go_wp2_with (at_builtin; refine wpList_append_rd rfl _ _ 24 rfl w.heap.size 5 _ 1 1 Try.underlying24 infoU8 rfl (by decide) _ 2 _ rfl (own_fresh _ _ _ 2 rfl (by simp [maxLen]) _ B1.out.size) _ _ _ rfl ((HB.out.new B1.out).chg (Chg.alloc NoFp _ _) (fun _ _ _ _ h => h)) (bv_one _) (by simp only [maxLen]; omega) (by omega) (Nat.le_trans B1.out.size (by simp)) ?_; intro pp cc w2 hown1 hg1 hb1)
    rw [HT.out, ← bv_append] at hown1
    have B2 : Hid (Below w.heap.size w w2) := (B1.out.alloc B1.out.size _).grown hg1 (Nat.le_trans B1.out.size (by simp)) (by intro k hk; simp [Value.ownBlock, Act.eval] at hk; rw [← hk]; exact B1.out.size)
    have HW := hid hown1
    clear hown1 hg1 hb1 HT
    have hbs : Bs w2 (.slice pp (2 + l.length) cc) ([UInt8.ofNat (((l.length : Int) + 1 + (m : Int)) % 256).toNat, UInt8.ofNat (((l.length : Int) + 1 + (m : Int)) / 256).toNat] ++ l) := by
      have h := Rd.of_own HW.out
      unfold Bs
      have e : ([UInt8.ofNat (((l.length : Int) + 1 + (m : Int)) % 256).toNat, UInt8.ofNat (((l.length : Int) + 1 + (m : Int)) / 256).toNat] ++ l).length = 2 + l.length := by simp; omega
      rw [e]; exact h
    have H2 := hid (New_any _ _ _ hbs (by simp; omega))
    clear hbs
    generalize hgb : [UInt8.ofNat (((l.length : Int) + 1 + (m : Int)) % 256).toNat, UInt8.ofNat (((l.length : Int) + 1 + (m : Int)) / 256).toNat] = bb at H2 HN
    have hbb : bb.length = 2 := by rw [← hgb]; rfl
    clear hgb
    refine H2.out.mono ?_; rintro e1 w3 ⟨r, rfl, hb3, hr1, ob, hob, hr⟩; have B3 := hid (B2.out.trans (hb3.mono B2.out.size)); have R1 := hid hr1; have R3 := hid hr; clear hb3 hr1 hob hr H2
    go_wp2_with fail
    have g1 : tkGot (bb ++ l) 0 2 = bb := by simp [tkGot, hbb]; intro h; omega
    have g2 : tkLeft (bb ++ l) 0 2 = l := by simp [tkLeft, hbb]; intro h; omega
    have g3 : tkErr (bb ++ l) 0 2 = 0 := by simp [tkErr, hbb]
    have g4 : tkGot l 0 (l.length + 1 + m) = [] := by simp [tkGot]; omega
    have g5 : tkLeft l 0 (l.length + 1 + m) = l := by simp [tkLeft]; omega
    have g6 : tkErr l 0 (l.length + 1 + m) = 7 := by simp [tkErr]; omega
    have HX := rText_any r ob (bb ++ l) 0 w3 R3.out (by simp; omega) (by omega) (by omega)
    rw [g1, g2, g3, HN.out, g4, g5, g6] at HX
    have HX := hid HX
    clear g1 g2 g3 g4 g5 g6 hbb
    refine HX.out.mono ?_; rintro e1 w4 ⟨rfl, hc, hr⟩; have C4 := hid hc; have R4 := hid hr; clear hc hr R3 HX HN
    have B4 := hid (B3.out.trans (C4.out.below (B := w.heap.size) (fun k hk => by rw [hk]; exact Nat.le_trans B2.out.size R1.out) B3.out.size))
    have HB4 := hid (HB.out.new B4.out)
    obtain ⟨q7, hq7⟩ : ∃ q7, min l.length 7 = q7 := ⟨_, rfl⟩
    have hm : (if (7 : Int) < (l.length : Int) then (7 : Int) else (l.length : Int)) = (q7 : Int) := by split <;> omega
    have e2 : bv (l.take 7) = (bv l).take q7 := by rw [← hq7]; simp [bv, ← List.map_take]; congr 1; rw [List.take_eq_take_iff]; omega
    have e1 : (l.take 7).length = q7 := by simp; omega
    have hq8 : q7 ≤ l.length := by omega
    have E1 := hid e1
    have E2 := hid e2
    clear hq7 e1 e2
    go_wp2_with (refine wpList_slice_rd rfl 24 _ _ _ rfl 5 1 Try.underlying24 infoU8' _ _ _ rfl HB4.out 0 q7 rfl ⟨_, _, rfl, by omega, by simp⟩ (by omega) hq8 ?_; intro qa qc hq hqb; have HQ := hid hq; clear hq hqb)
    have hbs : Bs w4 (.slice qa q7 qc) (l.take 7) := by
      have h := HQ.out
      unfold Bs
      rw [E1.out, E2.out]
      simpa using h
    refine (New_any _ _ _ hbs (by simp; omega)).mono ?_; rintro e1 w5 ⟨s, rfl, hb5, hs1, os, hos, hs⟩; have B5 := hid hb5; have S1 := hid hs1; have S5 := hid hs; clear hb5 hs1 hos hs hbs HQ HB4
    go_wp2_with fail
    have HX := rInt_any s os (l.take 7) 0 w5 S5.out (by simp; omega) (by omega) (by omega)
    have g1 : tkGot (l.take 7) 0 8 = [] := by simp [tkGot]; omega
    have g2 : tkLeft (l.take 7) 0 8 = l.take 7 := by simp [tkLeft]; omega
    have g3 : tkErr (l.take 7) 0 8 = 7 := by simp [tkErr]; omega
    have g4 : wrap64 ((num [] : Nat) : Int) = 0 := by simp [num, wrap64]
    rw [g1, g2, g3, g4] at HX
    have HX := hid HX
    clear g1 g2 g3 g4
    refine HX.out.mono ?_; rintro e1 w6 ⟨rfl, hc, hr⟩; have C6 := hid hc; have S6 := hid hr; clear hc hr S5 HX
    have B6 := hid (B5.out.trans (C6.out.below (B := w4.heap.size) (fun k hk => by rw [hk]; exact S1.out) B5.out.size))
    have R6 := hid (R4.out.chg (Chg.new B6.out NoFp) (fun h => h) (fun _ _ _ h => h))
    go_wp2_with fail
    refine (rEnd_any r ob l 7 _ R6.out (by omega)).mono ?_; rintro e1 wx ⟨rfl, rfl⟩
    have ee : endErr l 7 = 7 := by simp [endErr]
    rw [ee]
    go_wp2_with fail
    refine (rEnd_any s os (l.take 7) 7 _ S6.out (by simp; omega)).mono ?_; rintro e1 wx ⟨rfl, rfl⟩
    have ee2 : endErr (l.take 7) 7 = 7 := by simp [endErr]
    rw [ee2]
    go_wp2_with fail
    go_ret
    exact ⟨rfl, B4.out.trans (B6.out.mono B4.out.size)⟩
  · go_enter Try.func4, Try.ntmps4
    go_wp2_with fail
    refine (known1_any _).mono ?_; rintro e1 w1 ⟨rfl, hb1⟩; have B1 := hid hb1; clear hb1
    go_wp2_with fail
    go_ret
    exact ⟨rfl, B1.out⟩
end Go.Proofs.Ytgikaocimconlaa
