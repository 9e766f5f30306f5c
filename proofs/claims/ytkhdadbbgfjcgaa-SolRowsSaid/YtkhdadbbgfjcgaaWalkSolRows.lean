/- SolRows (printed by gen_solrows.py). -/
import Derived.Test.YtkhdadbbgfjcgaaSolRc
import Derived.Test.YtkhdadbbgfjcgaaSolOa
namespace Go.Proofs.Ytkhdadbbgfjcgaa
open Go.RowKit
set_option linter.unusedVariables false

theorem all_le (stay : Bool) (b : List Sl) : ∀ a : List Sl, (allP stay a b).length ≤ a.length * (b.length + 1)
  | [] => by simp [allP]
  | s :: a => by
    have ih := all_le stay b a
    have h : (rowP stay b s).length ≤ b.length + 1 := by
      unfold rowP
      split
      · simp
      · exact Nat.le_trans (mts_len s b) (by omega)
    unfold allP at ih ⊢
    rw [List.flatMap_cons, List.length_append, List.length_cons, Nat.add_mul]
    omega

set_option maxRecDepth 100000 in
set_option maxHeartbeats 8000000 in
theorem solRows_walk (a0 : Option Addr) (len0 cap0 : Nat) (z0 : List Int) (a1 : Option Addr) (len1 cap1 : Nat) (z1 : List Int) (w : World) (w0 : IsRow .i64 w a0 len0 cap0 z0) (w1 : IsRow .i64 w a1 len1 cap1 z1) :
    Calls Try.prog 7 #[.slice a0 len0 cap0, .slice a1 len1 cap1] w fun e w' => e = .returned (.bool true) ∧ Below w.heap.size w w' := by
  obtain ⟨xs, hxl, hrd, hx64⟩ := rd_ints w0
  obtain ⟨ys, hyl, hrd2, hy64⟩ := rd_ints w1
  have HR := hid hrd
  have HR2 := hid hrd2
  have HX64 := hid hx64
  have HY64 := hid hy64
  have HB := hid (Below.refl w.heap.size w)
  clear w0 hrd hx64 hxl w1 hrd2 hy64 hyl
  go_enter Try.func7, Try.ntmps7
  go_wp2_with fail
  refine (known_any w).mono ?_
  rintro e v1 ⟨rfl, hb⟩
  have HB_ := hid (HB.out.trans (hb.mono HB.out.size))
  clear HB
  have HB := HB_
  clear HB_
  have HR_ := hid (HR.out.new hb)
  clear HR
  have HR := HR_
  clear HR_
  have HR2_ := hid (HR2.out.new hb)
  clear HR2
  have HR2 := HR2_
  clear HR2_
  clear hb
  go_wp2_with fail
  refine (some_any xs _ v1 HR.out HX64.out).mono ?_
  rintro e v2 ⟨pl, cl, rfl, ho, hb⟩
  have HB_ := hid (HB.out.trans (hb.mono HB.out.size))
  clear HB
  have HB := HB_
  clear HB_
  have HR2_ := hid (HR2.out.new hb)
  clear HR2
  have HR2 := HR2_
  clear HR2_
  have HL := hid ho.at
  have hLn := someP_len xs
  have HOK := hid (someP_ok xs)
  clear ho
  generalize someP xs = L at *
  obtain ⟨n, hn⟩ : ∃ n, L.length = n := ⟨_, rfl⟩
  have HN := hid hn
  rw [hn] at hLn HL ⊢
  clear hn
  clear hb
  go_wp2_with fail
  refine (some_any ys _ v2 HR2.out HY64.out).mono ?_
  rintro e v3 ⟨pk, ck, rfl, ho, hb⟩
  have HB_ := hid (HB.out.trans (hb.mono HB.out.size))
  clear HB
  have HB := HB_
  clear HB_
  have HL_ := hid (HL.out.new hb)
  clear HL
  have HL := HL_
  clear HL_
  have HK := hid ho.at
  have hKn := someP_len ys
  have HOK2 := hid (someP_ok ys)
  clear ho
  generalize someP ys = K at *
  obtain ⟨m, hm⟩ : ∃ m, K.length = m := ⟨_, rfl⟩
  have HM := hid hm
  rw [hm] at hKn HK ⊢
  clear hm
  clear hb
  go_wp2_with fail
  have hs : ∀ stay, (allP stay L K).length ≤ 930 := fun stay => by
    have h := all_le stay K L
    rw [HN.out, HM.out] at h
    exact Nat.le_trans h (Nat.le_trans (Nat.mul_le_mul hLn (Nat.succ_le_succ hKn)) (by omega))
  obtain ⟨X, hX⟩ : ∃ X, srt textP (allP false L K) = X := ⟨_, rfl⟩
  obtain ⟨Y, hY⟩ : ∃ Y, srt textP (allP true L K) = Y := ⟨_, rfl⟩
  obtain ⟨Z, hZ⟩ : ∃ Z, srt textP L = Z := ⟨_, rfl⟩
  obtain ⟨U, hU⟩ : ∃ U, srt textP (minP L K) = U := ⟨_, rfl⟩
  have HJ1 := hid (show jnP false L K = some X by rw [jn_some (by have := hs false; omega), hX])
  have HJ2 := hid (show jnP true L K = some Y by rw [jn_some (by have := hs true; omega), hY])
  have hXl : X.length ≤ 930 := by rw [← hX, srt_len]; exact hs false
  have hYl : Y.length ≤ 930 := by rw [← hY, srt_len]; exact hs true
  have hZl : Z.length = n := by rw [← hZ, srt_len]; exact HN.out
  have hUl : U.length = (minP L K).length := by rw [← hU, srt_len]
  have hUn : (minP L K).length ≤ n := by rw [← HN.out]; exact List.length_filter_le _ _
  have HOX := hid (show ∀ s ∈ X, OkS 8 s from fun s hs => by rw [← hX] at hs; exact all_ok HOK.out HOK2.out s (mem_srt.1 hs))
  have HOY := hid (show ∀ s ∈ Y, OkS 8 s from fun s hs => by rw [← hY] at hs; exact all_ok HOK.out HOK2.out s (mem_srt.1 hs))
  have HOZ := hid (show ∀ s ∈ Z, OkS 4 s from fun s hs => by rw [← hZ] at hs; exact HOK.out s (mem_srt.1 hs))
  have HOU := hid (show ∀ s ∈ U, OkS 4 s from fun s hs => by rw [← hU] at hs; exact HOK.out s (List.mem_filter.1 (mem_srt.1 hs)).1)
  have HZ := hid hZ
  have HU := hid hU
  obtain ⟨x, hx⟩ : ∃ x, X.length = x := ⟨_, rfl⟩
  obtain ⟨y, hy⟩ : ∃ y, Y.length = y := ⟨_, rfl⟩
  obtain ⟨u, hu⟩ : ∃ u, (minP L K).length = u := ⟨_, rfl⟩
  have HNX := hid hx
  have HNY := hid hy
  have HNU := hid hu
  have HNZ := hid hZl
  have HNU2 := hid (show U.length = u by rw [hUl, hu])
  rw [hx] at hXl
  rw [hy] at hYl
  rw [hu] at hUn
  clear hs hX hY hZ hU hZl hUl hx hy hu
  refine (join_any L K _ _ v3 4 4 HL.out HK.out HOK.out HOK2.out (by omega) (by rw [HN.out]; omega) (by rw [HM.out]; omega)).mono ?_
  rintro e v4 ⟨p1, c1, rfl, ho, hb⟩
  have HB_ := hid (HB.out.trans (hb.mono HB.out.size))
  clear HB
  have HB := HB_
  clear HB_
  have HL_ := hid (HL.out.new hb)
  clear HL
  have HL := HL_
  clear HL_
  have HK_ := hid (HK.out.new hb)
  clear HK
  have HK := HK_
  clear HK_
  rw [HJ1.out] at ho ⊢
  simp only [Option.getD_some, Option.isSome_some, if_true, HNX.out] at ho ⊢
  have HX1 := hid ho.at
  clear ho
  clear hb
  go_wp2_with fail
  refine (rJoin_any L K _ _ v4 4 4 HL.out HK.out HOK.out HOK2.out (by omega) (by rw [HN.out]; omega) (by rw [HM.out]; omega)).mono ?_
  rintro e v5 ⟨p2, c2, rfl, ho, hb⟩
  have HB_ := hid (HB.out.trans (hb.mono HB.out.size))
  clear HB
  have HB := HB_
  clear HB_
  have HL_ := hid (HL.out.new hb)
  clear HL
  have HL := HL_
  clear HL_
  have HK_ := hid (HK.out.new hb)
  clear HK
  have HK := HK_
  clear HK_
  have HX1_ := hid (HX1.out.new hb)
  clear HX1
  have HX1 := HX1_
  clear HX1_
  rw [HJ1.out] at ho ⊢
  simp only [Option.getD_some, Option.isSome_some, if_true, HNX.out] at ho ⊢
  have HX2 := hid ho.at
  clear ho
  clear hb
  go_wp2_with fail
  refine (left_any L K _ _ v5 4 4 HL.out HK.out HOK.out HOK2.out (by omega) (by rw [HN.out]; omega) (by rw [HM.out]; omega)).mono ?_
  rintro e v6 ⟨p3, c3, rfl, ho, hb⟩
  have HB_ := hid (HB.out.trans (hb.mono HB.out.size))
  clear HB
  have HB := HB_
  clear HB_
  have HL_ := hid (HL.out.new hb)
  clear HL
  have HL := HL_
  clear HL_
  have HK_ := hid (HK.out.new hb)
  clear HK
  have HK := HK_
  clear HK_
  have HX1_ := hid (HX1.out.new hb)
  clear HX1
  have HX1 := HX1_
  clear HX1_
  have HX2_ := hid (HX2.out.new hb)
  clear HX2
  have HX2 := HX2_
  clear HX2_
  rw [HJ2.out] at ho ⊢
  simp only [Option.getD_some, Option.isSome_some, if_true, HNY.out] at ho ⊢
  have HY1 := hid ho.at
  clear ho
  clear hb
  go_wp2_with fail
  refine (rLeft_any L K _ _ v6 4 4 HL.out HK.out HOK.out HOK2.out (by omega) (by rw [HN.out]; omega) (by rw [HM.out]; omega)).mono ?_
  rintro e v7 ⟨p4, c4, rfl, ho, hb⟩
  have HB_ := hid (HB.out.trans (hb.mono HB.out.size))
  clear HB
  have HB := HB_
  clear HB_
  have HL_ := hid (HL.out.new hb)
  clear HL
  have HL := HL_
  clear HL_
  have HK_ := hid (HK.out.new hb)
  clear HK
  have HK := HK_
  clear HK_
  have HX1_ := hid (HX1.out.new hb)
  clear HX1
  have HX1 := HX1_
  clear HX1_
  have HX2_ := hid (HX2.out.new hb)
  clear HX2
  have HX2 := HX2_
  clear HX2_
  have HY1_ := hid (HY1.out.new hb)
  clear HY1
  have HY1 := HY1_
  clear HY1_
  rw [HJ2.out] at ho ⊢
  simp only [Option.getD_some, Option.isSome_some, if_true, HNY.out] at ho ⊢
  have HY2 := hid ho.at
  clear ho
  clear hb
  go_wp2_with fail
  refine (sort_any L _ v7 4 HL.out (by rw [HN.out]; omega) HOK.out (by omega)).mono ?_
  rintro e v8 ⟨p5, c5, rfl, ho, hb⟩
  have HB_ := hid (HB.out.trans (hb.mono HB.out.size))
  clear HB
  have HB := HB_
  clear HB_
  have HL_ := hid (HL.out.new hb)
  clear HL
  have HL := HL_
  clear HL_
  have HK_ := hid (HK.out.new hb)
  clear HK
  have HK := HK_
  clear HK_
  have HX1_ := hid (HX1.out.new hb)
  clear HX1
  have HX1 := HX1_
  clear HX1_
  have HX2_ := hid (HX2.out.new hb)
  clear HX2
  have HX2 := HX2_
  clear HX2_
  have HY1_ := hid (HY1.out.new hb)
  clear HY1
  have HY1 := HY1_
  clear HY1_
  have HY2_ := hid (HY2.out.new hb)
  clear HY2
  have HY2 := HY2_
  clear HY2_
  rw [HZ.out, HN.out] at ho
  rw [HN.out]
  have HZ1 := hid ho.at
  clear ho
  clear hb
  go_wp2_with fail
  refine (rSort_any L _ v8 4 HL.out (by rw [HN.out]; omega) HOK.out (by omega)).mono ?_
  rintro e v9 ⟨p6, c6, rfl, ho, hb⟩
  have HB_ := hid (HB.out.trans (hb.mono HB.out.size))
  clear HB
  have HB := HB_
  clear HB_
  have HL_ := hid (HL.out.new hb)
  clear HL
  have HL := HL_
  clear HL_
  have HK_ := hid (HK.out.new hb)
  clear HK
  have HK := HK_
  clear HK_
  have HX1_ := hid (HX1.out.new hb)
  clear HX1
  have HX1 := HX1_
  clear HX1_
  have HX2_ := hid (HX2.out.new hb)
  clear HX2
  have HX2 := HX2_
  clear HX2_
  have HY1_ := hid (HY1.out.new hb)
  clear HY1
  have HY1 := HY1_
  clear HY1_
  have HY2_ := hid (HY2.out.new hb)
  clear HY2
  have HY2 := HY2_
  clear HY2_
  have HZ1_ := hid (HZ1.out.new hb)
  clear HZ1
  have HZ1 := HZ1_
  clear HZ1_
  rw [HZ.out, HN.out] at ho
  rw [HN.out]
  have HZ2 := hid ho.at
  clear ho
  clear hb
  go_wp2_with fail
  refine (same_any Z Z _ _ v9 4 HZ1.out HZ2.out HOZ.out HOZ.out (by omega) (by rw [HNZ.out]; omega) (by rw [HNZ.out]; omega)).mono ?_
  rintro e v10 ⟨rfl, hb⟩
  have HB_ := hid (HB.out.trans (hb.mono HB.out.size))
  clear HB
  have HB := HB_
  clear HB_
  have HL_ := hid (HL.out.new hb)
  clear HL
  have HL := HL_
  clear HL_
  have HK_ := hid (HK.out.new hb)
  clear HK
  have HK := HK_
  clear HK_
  have HX1_ := hid (HX1.out.new hb)
  clear HX1
  have HX1 := HX1_
  clear HX1_
  have HX2_ := hid (HX2.out.new hb)
  clear HX2
  have HX2 := HX2_
  clear HX2_
  have HY1_ := hid (HY1.out.new hb)
  clear HY1
  have HY1 := HY1_
  clear HY1_
  have HY2_ := hid (HY2.out.new hb)
  clear HY2
  have HY2 := HY2_
  clear HY2_
  have HZ1_ := hid (HZ1.out.new hb)
  clear HZ1
  have HZ1 := HZ1_
  clear HZ1_
  have HZ2_ := hid (HZ2.out.new hb)
  clear HZ2
  have HZ2 := HZ2_
  clear HZ2_
  rw [decide_eq_true (rfl : Z = Z)]
  clear hb
  go_wp2_with fail
  refine (same_any X X _ _ v10 8 HX1.out HX2.out HOX.out HOX.out (by omega) (by rw [HNX.out]; omega) (by rw [HNX.out]; omega)).mono ?_
  rintro e v11 ⟨rfl, hb⟩
  have HB_ := hid (HB.out.trans (hb.mono HB.out.size))
  clear HB
  have HB := HB_
  clear HB_
  have HL_ := hid (HL.out.new hb)
  clear HL
  have HL := HL_
  clear HL_
  have HK_ := hid (HK.out.new hb)
  clear HK
  have HK := HK_
  clear HK_
  have HX1_ := hid (HX1.out.new hb)
  clear HX1
  have HX1 := HX1_
  clear HX1_
  have HX2_ := hid (HX2.out.new hb)
  clear HX2
  have HX2 := HX2_
  clear HX2_
  have HY1_ := hid (HY1.out.new hb)
  clear HY1
  have HY1 := HY1_
  clear HY1_
  have HY2_ := hid (HY2.out.new hb)
  clear HY2
  have HY2 := HY2_
  clear HY2_
  have HZ1_ := hid (HZ1.out.new hb)
  clear HZ1
  have HZ1 := HZ1_
  clear HZ1_
  have HZ2_ := hid (HZ2.out.new hb)
  clear HZ2
  have HZ2 := HZ2_
  clear HZ2_
  rw [decide_eq_true (rfl : X = X)]
  clear hb
  go_wp2_with fail
  refine (same_any Y Y _ _ v11 8 HY1.out HY2.out HOY.out HOY.out (by omega) (by rw [HNY.out]; omega) (by rw [HNY.out]; omega)).mono ?_
  rintro e v12 ⟨rfl, hb⟩
  have HB_ := hid (HB.out.trans (hb.mono HB.out.size))
  clear HB
  have HB := HB_
  clear HB_
  have HL_ := hid (HL.out.new hb)
  clear HL
  have HL := HL_
  clear HL_
  have HK_ := hid (HK.out.new hb)
  clear HK
  have HK := HK_
  clear HK_
  have HX1_ := hid (HX1.out.new hb)
  clear HX1
  have HX1 := HX1_
  clear HX1_
  have HX2_ := hid (HX2.out.new hb)
  clear HX2
  have HX2 := HX2_
  clear HX2_
  have HY1_ := hid (HY1.out.new hb)
  clear HY1
  have HY1 := HY1_
  clear HY1_
  have HY2_ := hid (HY2.out.new hb)
  clear HY2
  have HY2 := HY2_
  clear HY2_
  have HZ1_ := hid (HZ1.out.new hb)
  clear HZ1
  have HZ1 := HZ1_
  clear HZ1_
  have HZ2_ := hid (HZ2.out.new hb)
  clear HZ2
  have HZ2 := HZ2_
  clear HZ2_
  rw [decide_eq_true (rfl : Y = Y)]
  clear hb
  go_wp2_with fail
  refine (minus_any L K _ _ v12 4 4 HL.out HK.out HOK.out HOK2.out (by omega) (by rw [HN.out]; omega) (by rw [HM.out]; omega)).mono ?_
  rintro e v13 ⟨p7, c7, rfl, ho, hb⟩
  have HB_ := hid (HB.out.trans (hb.mono HB.out.size))
  clear HB
  have HB := HB_
  clear HB_
  have HL_ := hid (HL.out.new hb)
  clear HL
  have HL := HL_
  clear HL_
  have HK_ := hid (HK.out.new hb)
  clear HK
  have HK := HK_
  clear HK_
  have HX1_ := hid (HX1.out.new hb)
  clear HX1
  have HX1 := HX1_
  clear HX1_
  have HX2_ := hid (HX2.out.new hb)
  clear HX2
  have HX2 := HX2_
  clear HX2_
  have HY1_ := hid (HY1.out.new hb)
  clear HY1
  have HY1 := HY1_
  clear HY1_
  have HY2_ := hid (HY2.out.new hb)
  clear HY2
  have HY2 := HY2_
  clear HY2_
  have HZ1_ := hid (HZ1.out.new hb)
  clear HZ1
  have HZ1 := HZ1_
  clear HZ1_
  have HZ2_ := hid (HZ2.out.new hb)
  clear HZ2
  have HZ2 := HZ2_
  clear HZ2_
  rw [HU.out, HNU.out] at ho
  rw [HNU.out]
  have HU1 := hid ho.at
  clear ho
  clear hb
  go_wp2_with fail
  refine (rMinus_any L K _ _ v13 4 4 HL.out HK.out HOK.out HOK2.out (by omega) (by rw [HN.out]; omega) (by rw [HM.out]; omega)).mono ?_
  rintro e v14 ⟨p8, c8, rfl, ho, hb⟩
  have HB_ := hid (HB.out.trans (hb.mono HB.out.size))
  clear HB
  have HB := HB_
  clear HB_
  have HL_ := hid (HL.out.new hb)
  clear HL
  have HL := HL_
  clear HL_
  have HK_ := hid (HK.out.new hb)
  clear HK
  have HK := HK_
  clear HK_
  have HX1_ := hid (HX1.out.new hb)
  clear HX1
  have HX1 := HX1_
  clear HX1_
  have HX2_ := hid (HX2.out.new hb)
  clear HX2
  have HX2 := HX2_
  clear HX2_
  have HY1_ := hid (HY1.out.new hb)
  clear HY1
  have HY1 := HY1_
  clear HY1_
  have HY2_ := hid (HY2.out.new hb)
  clear HY2
  have HY2 := HY2_
  clear HY2_
  have HZ1_ := hid (HZ1.out.new hb)
  clear HZ1
  have HZ1 := HZ1_
  clear HZ1_
  have HZ2_ := hid (HZ2.out.new hb)
  clear HZ2
  have HZ2 := HZ2_
  clear HZ2_
  have HU1_ := hid (HU1.out.new hb)
  clear HU1
  have HU1 := HU1_
  clear HU1_
  rw [HU.out, HNU.out] at ho
  rw [HNU.out]
  have HU2 := hid ho.at
  clear ho
  clear hb
  go_wp2_with fail
  refine (same_any U U _ _ v14 4 HU1.out HU2.out HOU.out HOU.out (by omega) (by rw [HNU2.out]; omega) (by rw [HNU2.out]; omega)).mono ?_
  rintro e v15 ⟨rfl, hb⟩
  have HB_ := hid (HB.out.trans (hb.mono HB.out.size))
  clear HB
  have HB := HB_
  clear HB_
  have HL_ := hid (HL.out.new hb)
  clear HL
  have HL := HL_
  clear HL_
  have HK_ := hid (HK.out.new hb)
  clear HK
  have HK := HK_
  clear HK_
  have HX1_ := hid (HX1.out.new hb)
  clear HX1
  have HX1 := HX1_
  clear HX1_
  have HX2_ := hid (HX2.out.new hb)
  clear HX2
  have HX2 := HX2_
  clear HX2_
  have HY1_ := hid (HY1.out.new hb)
  clear HY1
  have HY1 := HY1_
  clear HY1_
  have HY2_ := hid (HY2.out.new hb)
  clear HY2
  have HY2 := HY2_
  clear HY2_
  have HZ1_ := hid (HZ1.out.new hb)
  clear HZ1
  have HZ1 := HZ1_
  clear HZ1_
  have HZ2_ := hid (HZ2.out.new hb)
  clear HZ2
  have HZ2 := HZ2_
  clear HZ2_
  have HU1_ := hid (HU1.out.new hb)
  clear HU1
  have HU1 := HU1_
  clear HU1_
  have HU2_ := hid (HU2.out.new hb)
  clear HU2
  have HU2 := HU2_
  clear HU2_
  rw [decide_eq_true (rfl : U = U)]
  clear hb
  go_wp2_with fail
  go_ret
  exact ⟨rfl, HB.out⟩
end Go.Proofs.Ytkhdadbbgfjcgaa
