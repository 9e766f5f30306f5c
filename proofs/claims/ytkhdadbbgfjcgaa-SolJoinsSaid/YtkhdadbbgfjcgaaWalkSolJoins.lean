/- SolJoins (printed by gen_soljoins.py). -/
import Derived.Test.YtkhdadbbgfjcgaaSolJq
import Derived.Test.YtkhdadbbgfjcgaaSolOa
namespace Go.Proofs.Ytkhdadbbgfjcgaa
open Go.RowKit
set_option linter.unusedVariables false

theorem allJ_le (b : List Sl) : ∀ a : List Sl, (allP false a b).length ≤ a.length * b.length
  | [] => by simp [allP]
  | s :: a => by
    have ih := allJ_le b a
    have h : (rowP false b s).length ≤ b.length := by unfold rowP; rw [if_neg (by simp)]; exact mts_len s b
    unfold allP at ih ⊢
    rw [List.flatMap_cons, List.length_append, List.length_cons, Nat.add_mul]
    omega
theorem someP_good (xs : List Int) : ∀ s ∈ someP xs, GoodS s := by
  intro s hs
  obtain ⟨x, _, rfl⟩ := List.mem_map.1 hs
  exact one_good x
theorem someP_len2 (xs : List Int) : (someP xs).length ≤ xs.length := by unfold someP; rw [List.length_map, List.length_take]; omega

set_option maxRecDepth 100000 in
set_option maxHeartbeats 8000000 in
theorem solJoins_walk (a0 : Option Addr) (len0 cap0 : Nat) (z0 : List Int) (a1 : Option Addr) (len1 cap1 : Nat) (z1 : List Int) (a2 : Option Addr) (len2 cap2 : Nat) (z2 : List Int) (a3 : Int) (w : World) (w0 : IsRow .i64 w a0 len0 cap0 z0) (w1 : IsRow .i64 w a1 len1 cap1 z1) (w2 : IsRow .i64 w a2 len2 cap2 z2) (w3 : (Lit.int .i64 a3).wf = true) :
    Calls Try.prog 3 #[.slice a0 len0 cap0, .slice a1 len1 cap1, .slice a2 len2 cap2, .int .i64 a3] w fun e w' => e = .returned (.bool true) ∧ Below w.heap.size w w' := by
  obtain ⟨xs, hxl, hrd, hx64⟩ := rd_ints w0
  obtain ⟨ys, hyl, hrd2, hy64⟩ := rd_ints w1
  obtain ⟨us, hul, hrd3, hu64⟩ := rd_ints w2
  have HR := hid hrd
  have HR2 := hid hrd2
  have HR3 := hid hrd3
  have HX64 := hid hx64
  have HY64 := hid hy64
  have HU64 := hid hu64
  have HLEN := hid (And.intro hxl (And.intro hyl hul))
  have HB := hid (Below.refl w.heap.size w)
  clear w0 hrd hx64 hxl w1 hrd2 hy64 hyl w2 hrd3 hu64 hul w3
  go_enter Try.func3, Try.ntmps3
  go_wp2_with fail
  refine (known_any w).mono ?_
  rintro e v1 ⟨rfl, hb⟩
  have HB_ := hid (HB.out.trans (hb.mono HB.out.size))
  clear HB
  have HB := HB_
  clear HB_
  have HR_ := hid (HR.out.new hb)
  clear HR
  have HR := HR_
  clear HR_
  have HR2_ := hid (HR2.out.new hb)
  clear HR2
  have HR2 := HR2_
  clear HR2_
  have HR3_ := hid (HR3.out.new hb)
  clear HR3
  have HR3 := HR3_
  clear HR3_
  clear hb

  by_cases g0 : 10 < len0
  · have g02 : (10 : Int) < (len0 : Int) := by omega
    go_wp2_with fail
    go_ret
    exact ⟨rfl, HB.out⟩
  have g02 : ¬ (10 : Int) < (len0 : Int) := by omega
  by_cases g1 : 10 < len1
  · have g12 : (10 : Int) < (len1 : Int) := by omega
    go_wp2_with fail
    go_ret
    exact ⟨rfl, HB.out⟩
  have g12 : ¬ (10 : Int) < (len1 : Int) := by omega
  by_cases g2 : 10 < len2
  · have g22 : (10 : Int) < (len2 : Int) := by omega
    go_wp2_with fail
    go_ret
    exact ⟨rfl, HB.out⟩
  have g22 : ¬ (10 : Int) < (len2 : Int) := by omega
  go_wp2_with fail
  refine (some_any xs _ v1 HR.out HX64.out).mono ?_
  rintro e v2 ⟨pL, cL, rfl, ho, hb⟩
  have HB_ := hid (HB.out.trans (hb.mono HB.out.size))
  clear HB
  have HB := HB_
  clear HB_
  have HR2_ := hid (HR2.out.new hb)
  clear HR2
  have HR2 := HR2_
  clear HR2_
  have HR3_ := hid (HR3.out.new hb)
  clear HR3
  have HR3 := HR3_
  clear HR3_
  have HL := hid ho.at
  have hn10 := someP_len2 xs
  have HOL := hid (someP_ok xs)
  have HGL := hid (someP_good xs)
  clear ho
  generalize someP xs = L at *
  obtain ⟨n, hn⟩ : ∃ n, L.length = n := ⟨_, rfl⟩
  have HNL := hid hn
  rw [hn] at hn10 HL ⊢
  have hn10 : n ≤ 10 := by have := HLEN.out; omega
  clear hn
  clear hb
  go_wp2_with fail
  refine (some_any ys _ v2 HR2.out HY64.out).mono ?_
  rintro e v3 ⟨pK, cK, rfl, ho, hb⟩
  have HB_ := hid (HB.out.trans (hb.mono HB.out.size))
  clear HB
  have HB := HB_
  clear HB_
  have HR3_ := hid (HR3.out.new hb)
  clear HR3
  have HR3 := HR3_
  clear HR3_
  have HL_ := hid (HL.out.new hb)
  clear HL
  have HL := HL_
  clear HL_
  have HK := hid ho.at
  have hm10 := someP_len2 ys
  have HOK := hid (someP_ok ys)
  have HGK := hid (someP_good ys)
  clear ho
  generalize someP ys = K at *
  obtain ⟨m, hm⟩ : ∃ n, K.length = n := ⟨_, rfl⟩
  have HNK := hid hm
  rw [hm] at hm10 HK ⊢
  have hm10 : m ≤ 10 := by have := HLEN.out; omega
  clear hm
  clear hb
  go_wp2_with fail
  refine (some_any us _ v3 HR3.out HU64.out).mono ?_
  rintro e v4 ⟨pC, cC, rfl, ho, hb⟩
  have HB_ := hid (HB.out.trans (hb.mono HB.out.size))
  clear HB
  have HB := HB_
  clear HB_
  have HL_ := hid (HL.out.new hb)
  clear HL
  have HL := HL_
  clear HL_
  have HK_ := hid (HK.out.new hb)
  clear HK
  have HK := HK_
  clear HK_
  have HC := hid ho.at
  have hq10 := someP_len2 us
  have HOC := hid (someP_ok us)
  have HGC := hid (someP_good us)
  clear ho
  generalize someP us = C at *
  obtain ⟨q, hq⟩ : ∃ n, C.length = n := ⟨_, rfl⟩
  have HNC := hid hq
  rw [hq] at hq10 HC ⊢
  have hq10 : q ≤ 10 := by have := HLEN.out; omega
  clear hq
  clear hb
  go_wp2_with fail
  obtain ⟨r, hr⟩ : ∃ r : Nat, 0 < n → a3 % (n : Int) = (r : Int) ∧ r < n := ⟨(a3 % (n : Int)).toNat, fun h => by
    have h1 := Int.emod_nonneg a3 (show (n : Int) ≠ 0 by omega)
    have h2 := Int.emod_lt_of_pos a3 (show (0 : Int) < (n : Int) by omega)
    omega⟩
  have HRR := hid hr
  clear hr
  go_loopw [12, 13] (fun vo vi wr => ∃ (i : Nat) (p : Option Addr) (c : Nat) (o : List Sl), vo = .slice p i c ∧ vi = .int .i64 i ∧ i ≤ n ∧ Hid (o = turnP L r i) ∧ Hid (o.length = i) ∧ Hid (OwnL v4.heap.size wr (.slice p i c) o) ∧ Hid (Below v4.heap.size v4 wr)) (fun vo vi _ => n + 1 - (intOf vi).toNat)
  case atStart => exact ⟨0, none, 0, [], rfl, rfl, Nat.zero_le _, rfl, rfl, OwnL.nil _ _, Below.refl _ _⟩
  case round =>
    obtain ⟨i, p, c, o, rfl, rfl, hi, HO1, HKK, HO, HW⟩ := hrel
    have hsz := HW.out.size
    by_cases hlt : i < n
    · have hlt2 : (i : Int) < (n : Int) := by omega
      have hn0 : ((n : Int) == 0) = false := by simp; omega
      obtain ⟨j, hj⟩ : ∃ j : Nat, (i + r) % n = j := ⟨_, rfl⟩
      have hjn : j < n := by rw [← hj]; exact Nat.mod_lt _ (by omega)
      have hrn := (HRR.out (by omega)).2
      have htm : ((i : Int) + (r : Int)).tmod (n : Int) = (j : Int) := by rw [← hj, ← Int.natCast_add, ← Int.ofNat_tmod]
      have hjw : IntKind.i64.wrap (j : Int) = (j : Int) := IntWalk.i64_in _ (by omega)
      have hjn2 : (j : Int) < (n : Int) := by omega
      have hjL : j < L.length := by rw [HNL.out]; exact hjn
      obtain ⟨b, off, u, rfl, hcell, hsu⟩ := (HL.out.new HW.out).get hjL
      obtain ⟨pu, cu, rfl⟩ := hsu.shape
      have HTS := hid (show turnP L r (i + 1) = turnP L r i ++ [L[j]] by
        have h1 : (i + r) % L.length = j := by rw [HNL.out, hj]
        have := turn_succ L r i (by rw [h1]; exact hjL)
        rw [this]
        congr 2
        congr 1)
      have HSU := hid hsu
      have HJ := hid hj
      clear hsu hj
      generalize L[j] = s at *
      go_wp2_with fail
      refine (within16_any a3 n wr (by omega) (by omega)).mono ?_; rintro e w7 ⟨rfl, hw⟩; subst hw
      rw [(HRR.out (by omega)).1]
      go_wp2_with (at_builtin; refine wp_keep ?_)
      refine hid ?_
      have hz : Blk (wr.alloc (Obj.cells ([.slice pu s.length cu] : List Value).toArray TL)) wr.heap.size [.slice pu s.length cu] TL := heap_alloc_new wr _
      have hzb := (Below.refl wr.heap.size wr).alloc (Nat.le_refl _) (Obj.cells ([.slice pu s.length cu] : List Value).toArray TL)
      have hoz := HO.out.new hzb
      have hbz := HW.out.trans (hzb.mono hsz)
      have hsz1 := SolsAt.one hz (HSU.out.new hzb)
      generalize hw3 : wr.alloc (Obj.cells ([.slice pu s.length cu] : List Value).toArray TL) = w8 at hz hzb hoz hbz hsz1
      have hw4 : wr.alloc (Obj.cells #[.slice pu s.length cu] TL) = w8 := hw3
      try simp only [hw4]
      clear hw3 hw4 hcell
      refine wpList_append_sols rfl _ _ rfl v4.heap.size _ o rfl hoz _ [s] rfl hsz1 (by rw [HKK.out]; simp; omega) hbz.size ?_
      intro p4 c4 w9 ho4 hb4 hk4
      have HK4 := hid (show o.length + [s].length = i + 1 by rw [HKK.out]; rfl)
      rw [HK4.out] at ho4 ⊢
      have HO4 := hid ho4
      have HB4 := hid (hbz.trans hb4)
      clear ho4 hb4 hk4 hz hzb hoz hbz hsz1
      go_wp2_with fail
      case roundEnd => exact ⟨⟨i + 1, p4, c4, o ++ [s], rfl, by go_num, by omega, hid (by rw [HTS.out, ← HO1.out]), hid (by rw [List.length_append, HKK.out]; rfl), HO4, HB4⟩, by simp [intOf]; omega⟩
    · have hlt2 : ¬ (i : Int) < (n : Int) := by omega
      obtain rfl : n = i := by omega
      have HTP := hid (show o.Perm L by
        by_cases h0 : n = 0
        · have e1 : o = [] := List.eq_nil_of_length_eq_zero (by rw [HKK.out, h0])
          have e2 : L = [] := List.eq_nil_of_length_eq_zero (by rw [HNL.out, h0])
          rw [e1, e2]
        · rw [HO1.out]
          have h := turn_perm L r (by rw [HNL.out]; exact (HRR.out (by omega)).2)
          rwa [HNL.out] at h)
      have HT := hid HO.out.at
      have HLw := hid (HL.out.new HW.out)
      have HKw := hid (HK.out.new HW.out)
      have HCw := hid (HC.out.new HW.out)
      have HB2 := hid (HB.out.trans (HW.out.mono HB.out.size))
      have HAL := hid (show AscL L ∧ AscL K ∧ AscL C from ⟨fun s hs => (HOL.out s hs).asc, fun s hs => (HOK.out s hs).asc, fun s hs => (HOC.out s hs).asc⟩)
      have HOT := hid (show ∀ s ∈ o, OkS 4 s from fun s hs => HOL.out s (HTP.out.mem_iff.1 hs))
      have hs1 : (allP false L K).length ≤ 100 := by
        have h := allJ_le K L
        rw [HNL.out, HNK.out] at h
        exact Nat.le_trans h (Nat.le_trans (Nat.mul_le_mul hn10 hm10) (by omega))
      have hs2 : (allP false K o).length ≤ 100 := by
        have h := allJ_le o K
        rw [HNK.out, HKK.out] at h
        exact Nat.le_trans h (Nat.le_trans (Nat.mul_le_mul hm10 hn10) (by omega))
      have hs3 : (allP false K C).length ≤ 100 := by
        have h := allJ_le C K
        rw [HNC.out, HNK.out] at h
        exact Nat.le_trans h (Nat.le_trans (Nat.mul_le_mul hm10 hq10) (by omega))
      obtain ⟨X, hX⟩ : ∃ X, srt textP (allP false L K) = X := ⟨_, rfl⟩
      obtain ⟨Y, hY⟩ : ∃ Y, srt textP (allP false K C) = Y := ⟨_, rfl⟩
      have hXl : X.length ≤ 100 := by rw [← hX, srt_len]; exact hs1
      have hYl : Y.length ≤ 100 := by rw [← hY, srt_len]; exact hs3
      have hXY : srt textP (allP false K o) = X := by
        rw [← hX]
        exact (srt_perm_eq (all_comm HAL.out.1 HAL.out.2.1 HTP.out) (all_good HGL.out HGK.out)).symm
      have hXp : X.Perm (allP false L K) := by rw [← hX]; exact srt_perm _
      have hYp : Y.Perm (allP false K C) := by rw [← hY]; exact srt_perm _
      have hOX : ∀ s ∈ X, OkS 8 s := fun s hs => all_ok HOL.out HOK.out s (hXp.mem_iff.1 hs)
      have hOY : ∀ s ∈ Y, OkS 8 s := fun s hs => all_ok HOK.out HOC.out s (hYp.mem_iff.1 hs)
      have hGX : ∀ s ∈ X, GoodS s := fun s hs => all_good HGL.out HGK.out s (hXp.mem_iff.1 hs)
      have hs4 : (allP false X C).length ≤ 1000 := by
        have h := allJ_le C X
        rw [HNC.out] at h
        exact Nat.le_trans h (Nat.le_trans (Nat.mul_le_mul hXl hq10) (by omega))
      have hs5 : (allP false L Y).length ≤ 1000 := by
        have h := allJ_le Y L
        rw [HNL.out] at h
        exact Nat.le_trans h (Nat.le_trans (Nat.mul_le_mul hn10 hYl) (by omega))
      have hZV : srt textP (allP false X C) = srt textP (allP false L Y) := srt_perm_eq (all_assoc HAL.out.1 HAL.out.2.1 HAL.out.2.2 hXp hYp) (all_good hGX HGC.out)
      obtain ⟨Z, hZ⟩ : ∃ Z, srt textP (allP false X C) = Z := ⟨_, rfl⟩
      have hOZ : ∀ s ∈ Z, OkS 12 s := fun s hs => by rw [← hZ] at hs; exact all_ok hOX HOC.out s (mem_srt.1 hs)
      have hZl : Z.length ≤ 1000 := by rw [← hZ, srt_len]; exact hs4
      have HJ1 := hid (show jnP false L K = some X by rw [jn_some (by omega), hX])
      have HJ2 := hid (show jnP false K o = some X by rw [jn_some (by omega), hXY])
      have HJ3 := hid (show jnP false X C = some Z by rw [jn_some (by omega), hZ])
      have HJ4 := hid (show jnP false K C = some Y by rw [jn_some (by omega), hY])
      have HJ5 := hid (show jnP false L Y = some Z by rw [jn_some (by omega), ← hZV, hZ])
      have HOX := hid hOX
      have HOX2 := hid (show ∀ s ∈ X, OkS 12 s from fun s hs => (hOX s hs).mono (by omega))
      have HOY := hid hOY
      have HOZ := hid hOZ
      obtain ⟨x, hx⟩ : ∃ x, X.length = x := ⟨_, rfl⟩
      obtain ⟨y, hy⟩ : ∃ y, Y.length = y := ⟨_, rfl⟩
      obtain ⟨z, hz⟩ : ∃ z, Z.length = z := ⟨_, rfl⟩
      have HNX := hid hx
      have HNY := hid hy
      have HNZ := hid hz
      rw [hx] at hXl
      rw [hy] at hYl
      rw [hz] at hZl
      clear HL HK HC HB HO HW hs1 hs2 hs3 hX hY hXY hXp hYp hOX hOY hGX hs4 hs5 hZV hZ hOZ hx hy hz
      have HL := HLw
      have HK := HKw
      have HC := HCw
      have HB := HB2
      clear HLw HKw HCw HB2
      go_wp2_with fail
      refine (join_any L K _ _ wr 4 4 HL.out HK.out HOL.out HOK.out (by omega) (by rw [HNL.out]; omega) (by rw [HNK.out]; omega)).mono ?_
      rintro e u1 ⟨p11, c11, rfl, ho, hb⟩
      have HB_ := hid (HB.out.trans (hb.mono HB.out.size))
      clear HB
      have HB := HB_
      clear HB_
      have HL_ := hid (HL.out.new hb)
      clear HL
      have HL := HL_
      clear HL_
      have HK_ := hid (HK.out.new hb)
      clear HK
      have HK := HK_
      clear HK_
      have HC_ := hid (HC.out.new hb)
      clear HC
      have HC := HC_
      clear HC_
      have HT_ := hid (HT.out.new hb)
      clear HT
      have HT := HT_
      clear HT_
      rw [HJ1.out] at ho ⊢
      simp only [Option.getD_some, Option.isSome_some, if_true, HNX.out] at ho ⊢
      have HX1 := hid ho.at
      clear ho
      clear hb
      go_wp2_with fail
      refine (join_any K o _ _ u1 4 4 HK.out HT.out HOK.out HOT.out (by omega) (by rw [HNK.out]; omega) (by rw [HKK.out]; omega)).mono ?_
      rintro e u2 ⟨p12, c12, rfl, ho, hb⟩
      have HB_ := hid (HB.out.trans (hb.mono HB.out.size))
      clear HB
      have HB := HB_
      clear HB_
      have HL_ := hid (HL.out.new hb)
      clear HL
      have HL := HL_
      clear HL_
      have HK_ := hid (HK.out.new hb)
      clear HK
      have HK := HK_
      clear HK_
      have HC_ := hid (HC.out.new hb)
      clear HC
      have HC := HC_
      clear HC_
      have HT_ := hid (HT.out.new hb)
      clear HT
      have HT := HT_
      clear HT_
      have HX1_ := hid (HX1.out.new hb)
      clear HX1
      have HX1 := HX1_
      clear HX1_
      rw [HJ2.out] at ho ⊢
      simp only [Option.getD_some, Option.isSome_some, if_true, HNX.out] at ho ⊢
      have HX2 := hid ho.at
      clear ho
      clear hb
      go_wp2_with fail
      refine (join_any X C _ _ u2 8 4 HX1.out HC.out HOX.out HOC.out (by omega) (by rw [HNX.out]; omega) (by rw [HNC.out]; omega)).mono ?_
      rintro e u3 ⟨p13, c13, rfl, ho, hb⟩
      have HB_ := hid (HB.out.trans (hb.mono HB.out.size))
      clear HB
      have HB := HB_
      clear HB_
      have HL_ := hid (HL.out.new hb)
      clear HL
      have HL := HL_
      clear HL_
      have HK_ := hid (HK.out.new hb)
      clear HK
      have HK := HK_
      clear HK_
      have HC_ := hid (HC.out.new hb)
      clear HC
      have HC := HC_
      clear HC_
      have HT_ := hid (HT.out.new hb)
      clear HT
      have HT := HT_
      clear HT_
      have HX1_ := hid (HX1.out.new hb)
      clear HX1
      have HX1 := HX1_
      clear HX1_
      have HX2_ := hid (HX2.out.new hb)
      clear HX2
      have HX2 := HX2_
      clear HX2_
      rw [HJ3.out] at ho ⊢
      simp only [Option.getD_some, Option.isSome_some, if_true, HNZ.out] at ho ⊢
      have HZ1 := hid ho.at
      clear ho
      clear hb
      go_wp2_with fail
      refine (join_any K C _ _ u3 4 4 HK.out HC.out HOK.out HOC.out (by omega) (by rw [HNK.out]; omega) (by rw [HNC.out]; omega)).mono ?_
      rintro e u4 ⟨p14, c14, rfl, ho, hb⟩
      have HB_ := hid (HB.out.trans (hb.mono HB.out.size))
      clear HB
      have HB := HB_
      clear HB_
      have HL_ := hid (HL.out.new hb)
      clear HL
      have HL := HL_
      clear HL_
      have HK_ := hid (HK.out.new hb)
      clear HK
      have HK := HK_
      clear HK_
      have HC_ := hid (HC.out.new hb)
      clear HC
      have HC := HC_
      clear HC_
      have HT_ := hid (HT.out.new hb)
      clear HT
      have HT := HT_
      clear HT_
      have HX1_ := hid (HX1.out.new hb)
      clear HX1
      have HX1 := HX1_
      clear HX1_
      have HX2_ := hid (HX2.out.new hb)
      clear HX2
      have HX2 := HX2_
      clear HX2_
      have HZ1_ := hid (HZ1.out.new hb)
      clear HZ1
      have HZ1 := HZ1_
      clear HZ1_
      rw [HJ4.out] at ho ⊢
      simp only [Option.getD_some, Option.isSome_some, if_true, HNY.out] at ho ⊢
      have HY1 := hid ho.at
      clear ho
      clear hb
      go_wp2_with fail
      refine (join_any L Y _ _ u4 4 8 HL.out HY1.out HOL.out HOY.out (by omega) (by rw [HNL.out]; omega) (by rw [HNY.out]; omega)).mono ?_
      rintro e u5 ⟨p15, c15, rfl, ho, hb⟩
      have HB_ := hid (HB.out.trans (hb.mono HB.out.size))
      clear HB
      have HB := HB_
      clear HB_
      have HL_ := hid (HL.out.new hb)
      clear HL
      have HL := HL_
      clear HL_
      have HK_ := hid (HK.out.new hb)
      clear HK
      have HK := HK_
      clear HK_
      have HC_ := hid (HC.out.new hb)
      clear HC
      have HC := HC_
      clear HC_
      have HT_ := hid (HT.out.new hb)
      clear HT
      have HT := HT_
      clear HT_
      have HX1_ := hid (HX1.out.new hb)
      clear HX1
      have HX1 := HX1_
      clear HX1_
      have HX2_ := hid (HX2.out.new hb)
      clear HX2
      have HX2 := HX2_
      clear HX2_
      have HZ1_ := hid (HZ1.out.new hb)
      clear HZ1
      have HZ1 := HZ1_
      clear HZ1_
      have HY1_ := hid (HY1.out.new hb)
      clear HY1
      have HY1 := HY1_
      clear HY1_
      rw [HJ5.out] at ho ⊢
      simp only [Option.getD_some, Option.isSome_some, if_true, HNZ.out] at ho ⊢
      have HZ2 := hid ho.at
      clear ho
      clear hb
      go_wp2_with fail
      refine (same_any X X _ _ u5 12 HX1.out HX2.out HOX2.out HOX2.out (by omega) (by rw [HNX.out]; omega) (by rw [HNX.out]; omega)).mono ?_
      rintro e u6 ⟨rfl, hb⟩
      have HB_ := hid (HB.out.trans (hb.mono HB.out.size))
      clear HB
      have HB := HB_
      clear HB_
      have HL_ := hid (HL.out.new hb)
      clear HL
      have HL := HL_
      clear HL_
      have HK_ := hid (HK.out.new hb)
      clear HK
      have HK := HK_
      clear HK_
      have HC_ := hid (HC.out.new hb)
      clear HC
      have HC := HC_
      clear HC_
      have HT_ := hid (HT.out.new hb)
      clear HT
      have HT := HT_
      clear HT_
      have HX1_ := hid (HX1.out.new hb)
      clear HX1
      have HX1 := HX1_
      clear HX1_
      have HX2_ := hid (HX2.out.new hb)
      clear HX2
      have HX2 := HX2_
      clear HX2_
      have HZ1_ := hid (HZ1.out.new hb)
      clear HZ1
      have HZ1 := HZ1_
      clear HZ1_
      have HY1_ := hid (HY1.out.new hb)
      clear HY1
      have HY1 := HY1_
      clear HY1_
      have HZ2_ := hid (HZ2.out.new hb)
      clear HZ2
      have HZ2 := HZ2_
      clear HZ2_
      rw [decide_eq_true (rfl : X = X)]
      clear hb
      go_wp2_with fail
      refine (same_any Z Z _ _ u6 12 HZ1.out HZ2.out HOZ.out HOZ.out (by omega) (by rw [HNZ.out]; omega) (by rw [HNZ.out]; omega)).mono ?_
      rintro e u7 ⟨rfl, hb⟩
      have HB_ := hid (HB.out.trans (hb.mono HB.out.size))
      clear HB
      have HB := HB_
      clear HB_
      have HL_ := hid (HL.out.new hb)
      clear HL
      have HL := HL_
      clear HL_
      have HK_ := hid (HK.out.new hb)
      clear HK
      have HK := HK_
      clear HK_
      have HC_ := hid (HC.out.new hb)
      clear HC
      have HC := HC_
      clear HC_
      have HT_ := hid (HT.out.new hb)
      clear HT
      have HT := HT_
      clear HT_
      have HX1_ := hid (HX1.out.new hb)
      clear HX1
      have HX1 := HX1_
      clear HX1_
      have HX2_ := hid (HX2.out.new hb)
      clear HX2
      have HX2 := HX2_
      clear HX2_
      have HZ1_ := hid (HZ1.out.new hb)
      clear HZ1
      have HZ1 := HZ1_
      clear HZ1_
      have HY1_ := hid (HY1.out.new hb)
      clear HY1
      have HY1 := HY1_
      clear HY1_
      have HZ2_ := hid (HZ2.out.new hb)
      clear HZ2
      have HZ2 := HZ2_
      clear HZ2_
      rw [decide_eq_true (rfl : Z = Z)]
      clear hb
      go_wp2_with fail
      go_ret
      exact ⟨rfl, HB.out⟩
end Go.Proofs.Ytkhdadbbgfjcgaa
