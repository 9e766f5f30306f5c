/- SolNone (printed by gen_solnone.py). -/
import Derived.Test.YtkhdadbbgfjcgaaSolMi
import Derived.Test.YtkhdadbbgfjcgaaSolOa
namespace Go.Proofs.Ytkhdadbbgfjcgaa
open Go.RowKit
set_option linter.unusedVariables false

theorem meet_nil (s : Sl) : meetP s [] = some s := rfl
theorem mts_nil1 (s : Sl) : mts s [[]] = [s] := rfl
theorem all_nil1 (L : List Sl) : allP false L [[]] = L := by
  unfold allP
  have h : ∀ s, rowP false [[]] s = [s] := fun s => by unfold rowP; rw [mts_nil1]; simp
  rw [show rowP false [[]] = fun s => [s] from funext h]; simp
theorem all_nilF (L : List Sl) : allP false L [] = [] := by
  unfold allP
  have h : ∀ s, rowP false [] s = [] := fun s => by unfold rowP mts; simp
  rw [show rowP false [] = fun s => [] from funext h]; simp
theorem all_nilT (L : List Sl) : allP true L [] = L := by
  unfold allP
  have h : ∀ s, rowP true [] s = [s] := fun s => by unfold rowP mts; simp
  rw [show rowP true [] = fun s => [s] from funext h]; simp
theorem min_nil (L : List Sl) : minP L [] = L := by unfold minP; simp [foesP]
theorem min_nil1 (L : List Sl) : minP L [[]] = L := by
  unfold minP
  have h : ∀ s : Sl, foeP s [] = false := fun s => by
    unfold foeP sharesP
    have : ∀ v, hitB [] v = false := fun v => rfl
    simp [this]
  simp [foesP, h]

set_option maxRecDepth 100000 in
set_option maxHeartbeats 8000000 in
theorem solNone_walk (a0 : Option Addr) (len0 cap0 : Nat) (z0 : List Int) (w : World) (w0 : IsRow .i64 w a0 len0 cap0 z0) :
    Calls Try.prog 9 #[.slice a0 len0 cap0] w fun e w' => e = .returned (.bool true) ∧ Below w.heap.size w w' := by
  obtain ⟨xs, hxl, hrd, hx64⟩ := rd_ints w0
  have HR := hid hrd
  have HX64 := hid hx64
  have HB := hid (Below.refl w.heap.size w)
  clear w0 hrd hx64 hxl
  go_enter Try.func9, Try.ntmps9
  go_wp2_with fail
  refine (known_any w).mono ?_
  rintro e w1 ⟨rfl, hb⟩
  have HB_ := hid (HB.out.trans (hb.mono HB.out.size))
  clear HB
  have HB := HB_
  clear HB_
  have HR_ := hid (HR.out.new hb)
  clear HR
  have HR := HR_
  clear HR_
  clear hb
  go_wp2_with fail
  refine (some_any xs _ w1 HR.out HX64.out).mono ?_
  rintro e w2 ⟨pl, cl, rfl, ho, hb⟩
  have HB_ := hid (HB.out.trans (hb.mono HB.out.size))
  clear HB
  have HB := HB_
  clear HB_
  have HL := hid ho.at
  have hLn := someP_len xs
  have HOK := hid (someP_ok xs)
  clear ho
  generalize someP xs = L at *
  obtain ⟨n, hn⟩ : ∃ n, L.length = n := ⟨_, rfl⟩
  have HN := hid hn
  rw [hn] at hLn HL ⊢
  clear hn
  clear hb
  go_wp2_with fail
  refine (sort_any L _ w2 4 HL.out (by rw [HN.out]; omega) HOK.out (by omega)).mono ?_
  rintro e w3 ⟨px, cx, rfl, ho, hb⟩
  have HB_ := hid (HB.out.trans (hb.mono HB.out.size))
  clear HB
  have HB := HB_
  clear HB_
  have HL_ := hid (HL.out.new hb)
  clear HL
  have HL := HL_
  clear HL_
  have HXL := hid (show (srt textP L).length = n by rw [srt_len, HN.out])
  have HX := hid ho.at
  rw [HN.out] at HX ⊢
  have HXO : Hid (∀ s ∈ srt textP L, OkS 4 s) := hid (fun s hs => HOK.out s (mem_srt.1 hs))
  have HJ1 := hid (show jnP false L [[]] = some (srt textP L) by rw [jn_some (by rw [all_nil1, HN.out]; omega), all_nil1])
  have HJ2 := hid (show jnP false L [] = some [] by rw [jn_some (by rw [all_nilF]; simp), all_nilF]; rfl)
  have HJ3 := hid (show jnP true L [] = some (srt textP L) by rw [jn_some (by rw [all_nilT, HN.out]; omega), all_nilT])
  have HM1 := hid (min_nil L)
  have HM2 := hid (min_nil1 L)
  have HSL := hid (show srt textP (minP L []) = srt textP L ∧ srt textP (minP L [[]]) = srt textP L by rw [HM1.out, HM2.out]; exact ⟨rfl, rfl⟩)
  clear ho
  obtain ⟨X, hX⟩ : ∃ X, srt textP L = X := ⟨_, rfl⟩
  rw [hX] at HX HXL HXO HJ1 HJ3 HSL
  clear hX
  clear hb
  go_wp2_with fail
  have hz : Blk (w3.alloc (Obj.cells ([.slice none 0 0] : List Value).toArray TL)) w3.heap.size [.slice none 0 0] TL := heap_alloc_new w3 _
  have hb := (Below.refl w3.heap.size w3).alloc (Nat.le_refl _) (Obj.cells ([.slice none 0 0] : List Value).toArray TL)
  obtain ⟨w4, hw⟩ : ∃ w', w3.alloc (Obj.cells ([.slice none 0 0] : List Value).toArray TL) = w' := ⟨_, rfl⟩
  rw [hw] at hz hb
  have hw' : w3.alloc (Obj.cells #[.slice none 0 0] TL) = w4 := hw
  try simp only [hw']
  try simp only [hw]
  have HE := hid (SolsAt.one hz (SolAt.nil w4))
  have HB_ := hid (HB.out.trans (hb.mono HB.out.size))
  clear HB
  have HB := HB_
  clear HB_ hz hw hw'
  have HL_ := hid (HL.out.new hb)
  clear HL
  have HL := HL_
  clear HL_
  have HX_ := hid (HX.out.new hb)
  clear HX
  have HX := HX_
  clear HX_
  clear hb
  refine (join_any L [[]] _ _ w4 4 0 HL.out HE.out HOK.out (fun s hs => by simp at hs; subst hs; exact OkS.nil 0) (by omega) (by rw [HN.out]; omega) (by simp)).mono ?_
  rintro e w5 ⟨p1, c1, rfl, ho, hb⟩
  have HB_ := hid (HB.out.trans (hb.mono HB.out.size))
  clear HB
  have HB := HB_
  clear HB_
  have HL_ := hid (HL.out.new hb)
  clear HL
  have HL := HL_
  clear HL_
  have HX_ := hid (HX.out.new hb)
  clear HX
  have HX := HX_
  clear HX_
  rw [HJ1.out] at ho ⊢
  simp only [Option.getD_some, Option.isSome_some, if_true, HXL.out] at ho ⊢
  have H1 := hid ho.at
  clear ho
  clear hb
  go_wp2_with fail
  refine (join_any L [] _ _ w5 4 0 HL.out (SolsAt.nil w5) HOK.out (fun s hs => by cases hs) (by omega) (by rw [HN.out]; omega) (by simp)).mono ?_
  rintro e w6 ⟨p2, c2, rfl, ho, hb⟩
  have HB_ := hid (HB.out.trans (hb.mono HB.out.size))
  clear HB
  have HB := HB_
  clear HB_
  have HL_ := hid (HL.out.new hb)
  clear HL
  have HL := HL_
  clear HL_
  have HX_ := hid (HX.out.new hb)
  clear HX
  have HX := HX_
  clear HX_
  have H1_ := hid (H1.out.new hb)
  clear H1
  have H1 := H1_
  clear H1_
  rw [HJ2.out] at ho ⊢
  simp only [Option.getD_some, Option.isSome_some, if_true, List.length_nil] at ho ⊢
  clear ho
  clear hb
  go_wp2_with fail
  refine (left_any L [] _ _ w6 4 0 HL.out (SolsAt.nil w6) HOK.out (fun s hs => by cases hs) (by omega) (by rw [HN.out]; omega) (by simp)).mono ?_
  rintro e w7 ⟨p3, c3, rfl, ho, hb⟩
  have HB_ := hid (HB.out.trans (hb.mono HB.out.size))
  clear HB
  have HB := HB_
  clear HB_
  have HL_ := hid (HL.out.new hb)
  clear HL
  have HL := HL_
  clear HL_
  have HX_ := hid (HX.out.new hb)
  clear HX
  have HX := HX_
  clear HX_
  have H1_ := hid (H1.out.new hb)
  clear H1
  have H1 := H1_
  clear H1_
  rw [HJ3.out] at ho ⊢
  simp only [Option.getD_some, Option.isSome_some, if_true, HXL.out] at ho ⊢
  have H3 := hid ho.at
  clear ho
  clear hb
  go_wp2_with fail
  refine (same_any X X _ _ w7 4 H1.out HX.out HXO.out HXO.out (by omega) (by rw [HXL.out]; omega) (by rw [HXL.out]; omega)).mono ?_
  rintro e w8 ⟨rfl, hb⟩
  have HB_ := hid (HB.out.trans (hb.mono HB.out.size))
  clear HB
  have HB := HB_
  clear HB_
  have HL_ := hid (HL.out.new hb)
  clear HL
  have HL := HL_
  clear HL_
  have HX_ := hid (HX.out.new hb)
  clear HX
  have HX := HX_
  clear HX_
  have H1_ := hid (H1.out.new hb)
  clear H1
  have H1 := H1_
  clear H1_
  have H3_ := hid (H3.out.new hb)
  clear H3
  have H3 := H3_
  clear H3_
  rw [decide_eq_true (rfl : X = X)]
  clear hb
  go_wp2_with fail
  refine (same_any X X _ _ w8 4 H3.out HX.out HXO.out HXO.out (by omega) (by rw [HXL.out]; omega) (by rw [HXL.out]; omega)).mono ?_
  rintro e w9 ⟨rfl, hb⟩
  have HB_ := hid (HB.out.trans (hb.mono HB.out.size))
  clear HB
  have HB := HB_
  clear HB_
  have HL_ := hid (HL.out.new hb)
  clear HL
  have HL := HL_
  clear HL_
  have HX_ := hid (HX.out.new hb)
  clear HX
  have HX := HX_
  clear HX_
  have H1_ := hid (H1.out.new hb)
  clear H1
  have H1 := H1_
  clear H1_
  have H3_ := hid (H3.out.new hb)
  clear H3
  have H3 := H3_
  clear H3_
  rw [decide_eq_true (rfl : X = X)]
  clear hb
  go_wp2_with fail
  refine (minus_any L [] _ _ w9 4 0 HL.out (SolsAt.nil w9) HOK.out (fun s hs => by cases hs) (by omega) (by rw [HN.out]; omega) (by simp)).mono ?_
  rintro e w10 ⟨p4, c4, rfl, ho, hb⟩
  have HB_ := hid (HB.out.trans (hb.mono HB.out.size))
  clear HB
  have HB := HB_
  clear HB_
  have HL_ := hid (HL.out.new hb)
  clear HL
  have HL := HL_
  clear HL_
  have HX_ := hid (HX.out.new hb)
  clear HX
  have HX := HX_
  clear HX_
  have H1_ := hid (H1.out.new hb)
  clear H1
  have H1 := H1_
  clear H1_
  have H3_ := hid (H3.out.new hb)
  clear H3
  have H3 := H3_
  clear H3_
  rw [HSL.out.1, HM1.out, HN.out] at ho
  rw [HM1.out, HN.out]
  have H4 := hid ho.at
  clear ho
  clear hb
  go_wp2_with fail
  refine (same_any X X _ _ w10 4 H4.out HX.out HXO.out HXO.out (by omega) (by rw [HXL.out]; omega) (by rw [HXL.out]; omega)).mono ?_
  rintro e w11 ⟨rfl, hb⟩
  have HB_ := hid (HB.out.trans (hb.mono HB.out.size))
  clear HB
  have HB := HB_
  clear HB_
  have HL_ := hid (HL.out.new hb)
  clear HL
  have HL := HL_
  clear HL_
  have HX_ := hid (HX.out.new hb)
  clear HX
  have HX := HX_
  clear HX_
  have H4_ := hid (H4.out.new hb)
  clear H4
  have H4 := H4_
  clear H4_
  rw [decide_eq_true (rfl : X = X)]
  clear hb
  go_wp2_with fail
  have hz : Blk (w11.alloc (Obj.cells ([.slice none 0 0] : List Value).toArray TL)) w11.heap.size [.slice none 0 0] TL := heap_alloc_new w11 _
  have hb := (Below.refl w11.heap.size w11).alloc (Nat.le_refl _) (Obj.cells ([.slice none 0 0] : List Value).toArray TL)
  obtain ⟨w12, hw⟩ : ∃ w', w11.alloc (Obj.cells ([.slice none 0 0] : List Value).toArray TL) = w' := ⟨_, rfl⟩
  rw [hw] at hz hb
  have hw' : w11.alloc (Obj.cells #[.slice none 0 0] TL) = w12 := hw
  try simp only [hw']
  try simp only [hw]
  have HE2 := hid (SolsAt.one hz (SolAt.nil w12))
  have HB_ := hid (HB.out.trans (hb.mono HB.out.size))
  clear HB
  have HB := HB_
  clear HB_ hz hw hw'
  have HL_ := hid (HL.out.new hb)
  clear HL
  have HL := HL_
  clear HL_
  have HX_ := hid (HX.out.new hb)
  clear HX
  have HX := HX_
  clear HX_
  have H4_ := hid (H4.out.new hb)
  clear H4
  have H4 := H4_
  clear H4_
  clear hb
  refine (minus_any L [[]] _ _ w12 4 0 HL.out HE2.out HOK.out (fun s hs => by simp at hs; subst hs; exact OkS.nil 0) (by omega) (by rw [HN.out]; omega) (by simp)).mono ?_
  rintro e w13 ⟨p5, c5, rfl, ho, hb⟩
  have HB_ := hid (HB.out.trans (hb.mono HB.out.size))
  clear HB
  have HB := HB_
  clear HB_
  have HL_ := hid (HL.out.new hb)
  clear HL
  have HL := HL_
  clear HL_
  have HX_ := hid (HX.out.new hb)
  clear HX
  have HX := HX_
  clear HX_
  have H4_ := hid (H4.out.new hb)
  clear H4
  have H4 := H4_
  clear H4_
  rw [HSL.out.2, HM2.out, HN.out] at ho
  rw [HM2.out, HN.out]
  have H5 := hid ho.at
  clear ho
  clear hb
  go_wp2_with fail
  refine (same_any X X _ _ w13 4 H5.out HX.out HXO.out HXO.out (by omega) (by rw [HXL.out]; omega) (by rw [HXL.out]; omega)).mono ?_
  rintro e w14 ⟨rfl, hb⟩
  have HB_ := hid (HB.out.trans (hb.mono HB.out.size))
  clear HB
  have HB := HB_
  clear HB_
  have HL_ := hid (HL.out.new hb)
  clear HL
  have HL := HL_
  clear HL_
  have HX_ := hid (HX.out.new hb)
  clear HX
  have HX := HX_
  clear HX_
  have H5_ := hid (H5.out.new hb)
  clear H5
  have H5 := H5_
  clear H5_
  rw [decide_eq_true (rfl : X = X)]
  clear hb
  go_wp2_with fail
  go_ret
  exact ⟨rfl, HB.out⟩
end Go.Proofs.Ytkhdadbbgfjcgaa
