/- symMerge where one of the two is a single row (printed by gen_solsym.py). -/
import Derived.Test.YtkhdadbbgfjcgaaSolC
namespace Go.Proofs.Ytkhdadbbgfjcgaa
open Go.RowKit
set_option linter.unusedVariables false

theorem getm {U V W : List Rw} {i t : Nat} (hi : i = U.length + t) (ht : t < V.length) : (U ++ (V ++ W))[i]? = some V[t] := by
  subst hi
  rw [List.getElem?_append_right (by omega), show U.length + t - U.length = t by omega, List.getElem?_append_left ht, List.getElem?_eq_getElem ht]
theorem getLast_take {B : List Rw} {u : Nat} (hu : u ≤ B.length) (h0 : 0 < u) (hh : B.take u ≠ []) : (B.take u).getLast hh = B[u - 1] := by
  rw [List.getLast_eq_getElem, List.getElem_take]
  congr 1
  rw [List.length_take]; omega
theorem head_drop {B : List Rw} {u : Nat} (hu : u < B.length) (hh : B.drop u ≠ []) : (B.drop u).head hh = B[u] := by
  rw [List.head_drop]

set_option maxRecDepth 100000 in
set_option maxHeartbeats 8000000 in
theorem symMerge1_any (X B Y : List Rw) (x : Rw) (r : List Value) (g a m b N c : Nat) (w : World) (hh : Ro w g (X ++ (x :: (B ++ Y))) r) (h1 : One1 (X ++ (x :: (B ++ Y))))
    (hN : N = (X ++ (x :: (B ++ Y))).length) (ha : a = X.length) (hm : m = a + 1) (hb : b = m + B.length) (hlim : N ≤ 1000000) (sB : Sd KR B) :
    Calls Try.prog 68 #[.slice (some ⟨g, 0, none⟩) N c, .int .i64 a, .int .i64 m, .int .i64 b, fv] w fun e w' => e = .returned (.tuple #[]) ∧ Ro w' g (X ++ (srt KR ([x] ++ B) ++ Y)) r ∧ Chg (fun k => k = g) w w' := by
  have H := hid hh
  have H1 := hid h1
  have hN2 : N = X.length + 1 + (B.length + Y.length) := by rw [hN]; simp; omega
  have hbN : b ≤ N := by omega
  have hmb : m ≤ b := by omega
  have ham : (m : Int) - (a : Int) = 1 := by omega
  have haN : a < N := by omega
  have ham1 : a < m := by omega
  have HA := hid (And.intro ha (And.intro hm (And.intro hb hN2)))
  have HSB := hid sB
  have hx1 : x.1.oneCell' = true := h1 x (by simp)
  clear hh h1 hN ha hm hb hN2 sB
  go_enter Try.func68, Try.ntmps68
  go_wp2_with fail
  go_loopw [10, 11] (fun vi vj wr => ∃ (i j u v : Nat), vi = .int .i64 i ∧ vj = .int .i64 j ∧ m ≤ i ∧ i ≤ j ∧ j ≤ b ∧ i = m + u ∧ j = m + v ∧ Hid (∀ (h0 : 0 < u) (hu : u - 1 < B.length), ltB (KR B[u - 1]) (KR x) = true) ∧ Hid (∀ hv : v < B.length, ltB (KR B[v]) (KR x) = false) ∧
      Hid (Ro wr g (X ++ (x :: (B ++ Y))) r) ∧ Hid (Chg (fun k => k = g) w wr)) (fun vi vj _ => (intOf vj - intOf vi).toNat)
  case atStart => exact ⟨m, b, 0, B.length, rfl, rfl, Nat.le_refl _, hmb, Nat.le_refl _, rfl, HA.out.2.2.1, hid (fun h => by omega), hid (fun h => by omega), H, Chg.refl _ _⟩
  case round =>
    obtain ⟨i, j, u, v, rfl, rfl, hmi, hij, hjb, hu, hv, HU, HV, HO, HC⟩ := hrel
    by_cases hlt : i < j
    · obtain ⟨h, hh, hih, hhj⟩ : ∃ h : Nat, ((i : Int) + (j : Int)) / 2 = (h : Int) ∧ i ≤ h ∧ h < j := ⟨(i + j) / 2, by omega, by omega, by omega⟩
      obtain ⟨t, ht⟩ : ∃ t, h = m + t := ⟨h - m, by omega⟩
      have htB : t < B.length := by have := HA.out; omega
      obtain ⟨z, hz⟩ : ∃ z, B[t] = z := ⟨_, rfl⟩
      have hat1 : (X ++ (x :: (B ++ Y)))[h]? = some z := by rw [← hz, show X ++ (x :: (B ++ Y)) = (X ++ [x]) ++ (B ++ Y) by simp]; exact getm (by have := HA.out; simp; omega) htB
      have hat2 : (X ++ (x :: (B ++ Y)))[a]? = some x := get2 HA.out.1
      have HR := hid (And.intro (HO.out.of hat1) (HO.out.of hat2))
      have hhN : (h : Int) < (N : Int) := by omega
      have haN2 : (a : Int) < (N : Int) := by omega
      have hcl := cmp_lt (KR z) (KR x)
      have HUV := hid (And.intro hu (And.intro hv ht))
      have HTB := hid htB
      have HZ := hid hz
      clear hat1 hat2 hu hv ht hz
      by_cases hc : ltB (KR z) (KR x) = true
      · have hneg : Lib.compareBytes (KR z) (KR x) < 0 := hcl.2 hc
        have HCC := hid hc
        clear hcl hc
        go_wp2_with fail
        have hw1 : IntKind.i64.wrap (h : Int) = (h : Int) := IntWalk.i64_in _ (by omega)
        have hw2 : IntKind.i64.wrap (a : Int) = (a : Int) := IntWalk.i64_in _ (by omega)
        refine wp_region_plan2 (fun w' => RwAt w' g h z ∧ RwAt w' g a x) (fun j => !([9].contains j)) (fun j => [4, 8].contains j) (fun j => [9].contains j)
          [0, 1, 2, 3, 4, 5, 6, 7, 8, 9, 10] (by kernel_rfl) (by kernel_rfl) rfl (by kernel_rfl) (by kernel_rfl) HR.out ?_
        iterate 9 (apply wpPlan2_val; (case ho => rfl); (case hst => rfl); (case hw => rfl); (case hv => intro w' hS; first | (obtain ⟨⟨c0, c1⟩, c2, c3⟩ := hS rfl; go_simp; first | done | rfl) | (clear hS; go_simp; first | done | rfl)); intro K hK; go_simp; refine hK _ ?_; clear hK K)
        refine wpPlan2_list rfl rfl rfl (fun K hK => ?_)
        refine wpList_step (fun K2 hK2 => ?_)
        go_simp
        refine (cmp_any z x wr.drew).mono ?_
        rintro e2 w2 ⟨rfl, hb2⟩
        have HO1 := hid ((HO.out.drew).new hb2)
        have HC1 := hid (HC.out.trans (Chg.drewN' (n := 1) (Chg.new hb2 _)) (fun _ _ h => h))
        clear hb2
        go_simp
        refine hK2 _ _ ?_
        clear hK2 K2
        simp only [wpList]
        refine hK _ _ (fun h => by cases h) ?_
        clear hK K
        iterate 1 (apply wpPlan2_val; (case ho => rfl); (case hst => rfl); (case hw => rfl); (case hv => intro w' hS; first | (obtain ⟨⟨c0, c1⟩, c2, c3⟩ := hS rfl; go_simp; first | done | rfl) | (clear hS; go_simp; first | done | rfl)); intro K hK; go_simp; refine hK _ ?_; clear hK K)
        refine wpPlan2_nil ?_
        simp only [Qn]
        go_wp2_with fail
        go_roundw
        case rel => exact ⟨h + 1, j, t + 1, v, by go_num, rfl, by omega, by omega, hjb, by have := HUV.out; omega, HUV.out.2.1, hid (fun h0 hu => by simp only [Nat.add_sub_cancel]; rw [HZ.out]; exact HCC.out), HV, HO1, HC1⟩
        case measure => simp [intOf]; omega
      · have hneg : ¬ Lib.compareBytes (KR z) (KR x) < 0 := fun h => hc (hcl.1 h)
        have HCC := hid hc
        clear hcl hc
        go_wp2_with fail
        have hw1 : IntKind.i64.wrap (h : Int) = (h : Int) := IntWalk.i64_in _ (by omega)
        have hw2 : IntKind.i64.wrap (a : Int) = (a : Int) := IntWalk.i64_in _ (by omega)
        refine wp_region_plan2 (fun w' => RwAt w' g h z ∧ RwAt w' g a x) (fun j => !([9].contains j)) (fun j => [4, 8].contains j) (fun j => [9].contains j)
          [0, 1, 2, 3, 4, 5, 6, 7, 8, 9, 10] (by kernel_rfl) (by kernel_rfl) rfl (by kernel_rfl) (by kernel_rfl) HR.out ?_
        iterate 9 (apply wpPlan2_val; (case ho => rfl); (case hst => rfl); (case hw => rfl); (case hv => intro w' hS; first | (obtain ⟨⟨c0, c1⟩, c2, c3⟩ := hS rfl; go_simp; first | done | rfl) | (clear hS; go_simp; first | done | rfl)); intro K hK; go_simp; refine hK _ ?_; clear hK K)
        refine wpPlan2_list rfl rfl rfl (fun K hK => ?_)
        refine wpList_step (fun K2 hK2 => ?_)
        go_simp
        refine (cmp_any z x wr.drew).mono ?_
        rintro e2 w2 ⟨rfl, hb2⟩
        have HO1 := hid ((HO.out.drew).new hb2)
        have HC1 := hid (HC.out.trans (Chg.drewN' (n := 1) (Chg.new hb2 _)) (fun _ _ h => h))
        clear hb2
        go_simp
        refine hK2 _ _ ?_
        clear hK2 K2
        simp only [wpList]
        refine hK _ _ (fun h => by cases h) ?_
        clear hK K
        iterate 1 (apply wpPlan2_val; (case ho => rfl); (case hst => rfl); (case hw => rfl); (case hv => intro w' hS; first | (obtain ⟨⟨c0, c1⟩, c2, c3⟩ := hS rfl; go_simp; first | done | rfl) | (clear hS; go_simp; first | done | rfl)); intro K hK; go_simp; refine hK _ ?_; clear hK K)
        refine wpPlan2_nil ?_
        simp only [Qn]
        go_wp2_with fail
        go_roundw
        case rel => exact ⟨i, h, u, t, rfl, by go_num, by omega, by omega, by omega, HUV.out.1, HUV.out.2.2, HU, hid (fun hv => by rw [HZ.out]; simpa using HCC.out), HO1, HC1⟩
        case measure => simp [intOf]; omega
    · have hij2 : i = j := by omega
      subst hij2
      have huv : u = v := by omega
      subst huv
      have HUU := hid hu
      clear hu hv
      have hfin : B.take u ++ x :: B.drop u = srt KR ([x] ++ B) := by
        have hub : u ≤ B.length := by have := HA.out; have := HUU.out; omega
        have hs := HSB.out
        rw [← List.take_append_drop u B] at hs
        have hs := Sd.app.1 hs
        refine srt_cons HSB.out (List.take_append_drop u B).symm (hs.1.lastlt (fun hne => ?_)) (hs.2.1.first (fun hne => ?_))
        · have h0 : 0 < u := by cases u with
            | zero => simp at hne
            | succ _ => omega
          rw [getLast_take hub h0]
          exact HU.out h0 (by omega)
        · have h0 : u < B.length := by
            rcases Nat.lt_or_ge u B.length with h | h
            · exact h
            · exact absurd (List.drop_of_length_le h) hne
          rw [head_drop h0]
          exact HV.out h0
      have HF := hid hfin
      clear hfin
      go_wp2_with fail
      go_loopw [13] (fun vk wr => ∃ (k t : Nat), vk = .int .i64 k ∧ a ≤ k ∧ k < i ∧ Hid (k = a + t ∧ t ≤ u) ∧ Hid (Ro wr g (X ++ (B.take t ++ x :: (B.drop t ++ Y))) r) ∧ Hid (Chg (fun k => k = g) w wr)) (fun vk _ => (i - (intOf vk).toNat))
      case atStart => exact ⟨a, 0, rfl, Nat.le_refl _, by omega, ⟨rfl, Nat.zero_le _⟩, HO, HC⟩
      case round =>
        obtain ⟨k, t, rfl, hak, hki, HK, HO, HC⟩ := hrel
        by_cases hlt : k + 1 < i
        · have hlt2 : (k : Int) < (i : Int) - 1 := by omega
          have htB : t < B.length := by have := HA.out; have := HUU.out; have := HK.out; omega
          obtain ⟨z, hz⟩ : ∃ z, B[t] = z := ⟨_, rfl⟩
          obtain ⟨k1, hk1⟩ : ∃ k1, k1 = k + 1 := ⟨_, rfl⟩
          have hk2 : (k : Int) + 1 = (k1 : Int) := by omega
          have hd : B.drop t = z :: B.drop (t + 1) := by rw [List.drop_eq_getElem_cons htB, hz]
          have ht1 : B.take (t + 1) = B.take t ++ [z] := by rw [List.take_add_one, List.getElem?_eq_getElem htB, hz]; rfl
          have hL : X ++ (B.take t ++ x :: (B.drop t ++ Y)) = (X ++ B.take t) ++ x :: z :: (B.drop (t + 1) ++ Y) := by rw [hd]; simp
          rw [hL] at HO
          have hkl : k = (X ++ B.take t).length := by have := HA.out.1; have := HK.out; simp; omega
          have hat1 : ((X ++ B.take t) ++ x :: z :: (B.drop (t + 1) ++ Y))[k]? = some x := get2 hkl
          have hat2 : ((X ++ B.take t) ++ x :: z :: (B.drop (t + 1) ++ Y))[k1]? = some z := get3 (by omega)
          have hset : (((X ++ B.take t) ++ x :: z :: (B.drop (t + 1) ++ Y)).set k z).set k1 x = (X ++ B.take t) ++ z :: x :: (B.drop (t + 1) ++ Y) := set2 (U := X ++ B.take t) (M := []) (V := B.drop (t + 1) ++ Y) (p := x) (x := z) hkl (by simp only [List.length_nil]; omega)
          generalize hLLL : ((X ++ B.take t) ++ x :: z :: (B.drop (t + 1) ++ Y)) = L at HO hat1 hat2 hset
          have hkl1 : k < L.length := (List.getElem?_eq_some_iff.1 hat1).1
          have hkl2 : k1 < L.length := (List.getElem?_eq_some_iff.1 hat2).1
          have HR := hid (And.intro (HO.out.of hat1) (HO.out.of hat2))
          have HS := hid hset
          have HT1 := hid ht1
          have HK1 := hid hk1
          have hy1 : z.1.oneCell' = true := H1.out z (by rw [← hz]; simp [List.getElem_mem htB])
          have hkN : (k : Int) < (N : Int) := by omega
          have hk1N : (k1 : Int) < (N : Int) := by omega
          clear hL hat2 hat1 hset hLLL hd ht1 hkl hz htB hk1
          go_wp2_with fail
          have hw1 : IntKind.i64.wrap (k : Int) = (k : Int) := IntWalk.i64_in _ (by omega)
          have hw2 : IntKind.i64.wrap (k1 : Int) = (k1 : Int) := IntWalk.i64_in _ (by omega)
          refine wp_region_plan2 (fun w' => RwAt w' g k x ∧ RwAt w' g k1 z) (fun j => !([15, 16, 17].contains j)) (fun j => [9, 13].contains j) (fun j => [15, 16, 17].contains j)
            [0, 1, 2, 3, 4, 5, 6, 7, 8, 9, 10, 11, 12, 13, 14, 15, 16, 17] (by kernel_rfl) (by kernel_rfl) rfl (by kernel_rfl) (by kernel_rfl) HR.out ?_
          iterate 15 (apply wpPlan2_val; (case ho => rfl); (case hst => rfl); (case hw => rfl); (case hv => intro w' hS; first | (obtain ⟨⟨c0, c1⟩, c2, c3⟩ := hS rfl; go_simp; first | done | rfl) | (clear hS; go_simp; first | done | rfl)); intro K hK; go_simp; refine hK _ ?_; clear hK K)
          refine wpPlan2_list rfl rfl rfl (fun K hK => ?_)
          refine wpList_store_row rfl _ _ rfl g k L r z rfl rfl HO.out hkl1 hy1 (fun w1 ho1 hc1 hs1 => ?_)
          have HO1 := hid ho1
          have HC1 := hid (HC.out.trans (Chg.drewN' (n := 1) hc1) (fun _ _ h => h))
          clear ho1 hc1
          go_simp
          simp only [wpList]
          refine hK _ _ (fun h => by cases h) ?_
          clear hK K
          refine wpPlan2_list rfl rfl rfl (fun K hK => ?_)
          refine wpList_step (fun K2 hK2 => ?_)
          go_simp
          refine hK2 _ _ ?_
          clear hK2 K2
          simp only [wpList]
          refine hK _ _ (fun h => by cases h) ?_
          clear hK K
          refine wpPlan2_list rfl rfl rfl (fun K hK => ?_)
          refine wpList_store_row rfl _ _ rfl g k1 (L.set k z) r x rfl rfl HO1.out (by rw [List.length_set]; exact hkl2) hx1 (fun w2 ho2 hc2 hs2 => ?_)
          rw [HS.out] at ho2
          have HO2 := hid ho2
          have HC2 := hid (HC1.out.trans hc2 (fun _ _ h => h))
          clear ho2 hc2
          go_simp
          simp only [wpList]
          refine hK _ _ (fun h => by cases h) ?_
          clear hK K
          refine wpPlan2_nil ?_
          simp only [Qn]
          go_wp2_with fail
          go_roundw
          case rel => exact ⟨k1, t + 1, by go_num, by have := HK1.out; omega, by have := HK1.out; omega, ⟨by have := HK1.out; have := HK.out.1; omega, by have := HK.out; have := HA.out; have := HUU.out; omega⟩, by rw [HT1.out]; have := HO2.out; exact hid (by simpa using this), HC2⟩
          case measure => have := HK1.out; simp [intOf]; omega
        · have hlt2 : ¬ (k : Int) < (i : Int) - 1 := by omega
          have htu : t = u := by have := HK.out; have := HA.out; have := HUU.out; omega
          subst htu
          go_wp2_with fail
          refine bodyPost_ret (results_none rfl _ _ _) rfl ?_
          refine ⟨rfl, ?_, HC.out⟩
          have h9 := HO.out
          rw [show X ++ (B.take t ++ x :: (B.drop t ++ Y)) = X ++ ((B.take t ++ x :: B.drop t) ++ Y) by simp, HF.out] at h9
          exact h9

set_option maxRecDepth 100000 in
set_option maxHeartbeats 8000000 in
theorem symMerge2_any (X A Y : List Rw) (x : Rw) (r : List Value) (g a m b N c : Nat) (w : World) (hh : Ro w g (X ++ (A ++ (x :: Y))) r) (h1 : One1 (X ++ (A ++ (x :: Y))))
    (hN : N = (X ++ (A ++ (x :: Y))).length) (ha : a = X.length) (hm : m = a + A.length) (hb : b = m + 1) (hA : 1 < A.length) (hlim : N ≤ 1000000) (sA : Sd KR A) :
    Calls Try.prog 68 #[.slice (some ⟨g, 0, none⟩) N c, .int .i64 a, .int .i64 m, .int .i64 b, fv] w fun e w' => e = .returned (.tuple #[]) ∧ Ro w' g (X ++ (srt KR (A ++ [x]) ++ Y)) r ∧ Chg (fun k => k = g) w w' := by
  have H := hid hh
  have H1 := hid h1
  have hN2 : N = X.length + (A.length + (1 + Y.length)) := by rw [hN]; simp; omega
  have hbN : b ≤ N := by omega
  have hmb : (b : Int) - (m : Int) = 1 := by omega
  have ham : ¬ (m : Int) - (a : Int) = 1 := by omega
  have hamb : ((m : Int) - (a : Int) == 1) = false := by rw [beq_eq_false_iff_ne]; exact ham
  have hmN : m < N := by omega
  have ham1 : a < m := by omega
  have HA := hid (And.intro ha (And.intro hm (And.intro hb hN2)))
  have HSA := hid sA
  have hx1 : x.1.oneCell' = true := h1 x (by simp)
  clear hh h1 hN ha hm hb hN2 sA hA
  go_enter Try.func68, Try.ntmps68
  go_wp2_with fail
  go_loopw [14, 15] (fun vi vj wr => ∃ (i j u v : Nat), vi = .int .i64 i ∧ vj = .int .i64 j ∧ a ≤ i ∧ i ≤ j ∧ j ≤ m ∧ i = a + u ∧ j = a + v ∧ Hid (∀ (h0 : 0 < u) (hu : u - 1 < A.length), ltB (KR x) (KR A[u - 1]) = false) ∧ Hid (∀ hv : v < A.length, ltB (KR x) (KR A[v]) = true) ∧
      Hid (Ro wr g (X ++ (A ++ (x :: Y))) r) ∧ Hid (Chg (fun k => k = g) w wr)) (fun vi vj _ => (intOf vj - intOf vi).toNat)
  case atStart => exact ⟨a, m, 0, A.length, rfl, rfl, Nat.le_refl _, by omega, Nat.le_refl _, rfl, HA.out.2.1, hid (fun h => by omega), hid (fun h => by omega), H, Chg.refl _ _⟩
  case round =>
    obtain ⟨i, j, u, v, rfl, rfl, hmi, hij, hjb, hu, hv, HU, HV, HO, HC⟩ := hrel
    by_cases hlt : i < j
    · obtain ⟨h, hh, hih, hhj⟩ : ∃ h : Nat, ((i : Int) + (j : Int)) / 2 = (h : Int) ∧ i ≤ h ∧ h < j := ⟨(i + j) / 2, by omega, by omega, by omega⟩
      obtain ⟨t, ht⟩ : ∃ t, h = a + t := ⟨h - a, by omega⟩
      have htA : t < A.length := by have := HA.out; omega
      obtain ⟨z, hz⟩ : ∃ z, A[t] = z := ⟨_, rfl⟩
      have hat2 : (X ++ (A ++ (x :: Y)))[h]? = some z := by rw [← hz]; exact getm (by have := HA.out; omega) htA
      have hat1 : (X ++ (A ++ (x :: Y)))[m]? = some x := by rw [← List.append_assoc]; exact get2 (by have := HA.out; simp; omega)
      have HR := hid (And.intro (HO.out.of hat1) (HO.out.of hat2))
      have hhN : (h : Int) < (N : Int) := by omega
      have hmN2 : (m : Int) < (N : Int) := by omega
      have hcl := cmp_lt (KR x) (KR z)
      have HUV := hid (And.intro hu (And.intro hv ht))
      have HZ := hid hz
      clear hat1 hat2 hu hv ht hz
      by_cases hc : ltB (KR x) (KR z) = true
      · have hneg : Lib.compareBytes (KR x) (KR z) < 0 := hcl.2 hc
        have HCC := hid hc
        clear hcl hc
        go_wp2_with fail
        have hw1 : IntKind.i64.wrap (m : Int) = (m : Int) := IntWalk.i64_in _ (by omega)
        have hw2 : IntKind.i64.wrap (h : Int) = (h : Int) := IntWalk.i64_in _ (by omega)
        refine wp_region_plan2 (fun w' => RwAt w' g m x ∧ RwAt w' g h z) (fun j => !([9].contains j)) (fun j => [4, 8].contains j) (fun j => [9].contains j)
          [0, 1, 2, 3, 4, 5, 6, 7, 8, 9, 10, 11] (by kernel_rfl) (by kernel_rfl) rfl (by kernel_rfl) (by kernel_rfl) HR.out ?_
        iterate 9 (apply wpPlan2_val; (case ho => rfl); (case hst => rfl); (case hw => rfl); (case hv => intro w' hS; first | (obtain ⟨⟨c0, c1⟩, c2, c3⟩ := hS rfl; go_simp; first | done | rfl) | (clear hS; go_simp; first | done | rfl)); intro K hK; go_simp; refine hK _ ?_; clear hK K)
        refine wpPlan2_list rfl rfl rfl (fun K hK => ?_)
        refine wpList_step (fun K2 hK2 => ?_)
        go_simp
        refine (cmp_any x z wr.drew).mono ?_
        rintro e2 w2 ⟨rfl, hb2⟩
        have HO1 := hid ((HO.out.drew).new hb2)
        have HC1 := hid (HC.out.trans (Chg.drewN' (n := 1) (Chg.new hb2 _)) (fun _ _ h => h))
        clear hb2
        go_simp
        refine hK2 _ _ ?_
        clear hK2 K2
        simp only [wpList]
        refine hK _ _ (fun h => by cases h) ?_
        clear hK K
        iterate 2 (apply wpPlan2_val; (case ho => rfl); (case hst => rfl); (case hw => rfl); (case hv => intro w' hS; first | (obtain ⟨⟨c0, c1⟩, c2, c3⟩ := hS rfl; go_simp; first | done | rfl) | (clear hS; go_simp; first | done | rfl)); intro K hK; go_simp; refine hK _ ?_; clear hK K)
        refine wpPlan2_nil ?_
        simp only [Qn]
        go_wp2_with fail
        all_goals exact ⟨⟨i, h, u, t, rfl, by go_num, by omega, by omega, by omega, HUV.out.1, HUV.out.2.2, HU, hid (fun hv => by rw [HZ.out]; exact HCC.out), HO1, HC1⟩, by simp [intOf]; omega⟩
      · have hneg : ¬ Lib.compareBytes (KR x) (KR z) < 0 := fun h => hc (hcl.1 h)
        have HCC := hid hc
        clear hcl hc
        go_wp2_with fail
        have hw1 : IntKind.i64.wrap (m : Int) = (m : Int) := IntWalk.i64_in _ (by omega)
        have hw2 : IntKind.i64.wrap (h : Int) = (h : Int) := IntWalk.i64_in _ (by omega)
        refine wp_region_plan2 (fun w' => RwAt w' g m x ∧ RwAt w' g h z) (fun j => !([9].contains j)) (fun j => [4, 8].contains j) (fun j => [9].contains j)
          [0, 1, 2, 3, 4, 5, 6, 7, 8, 9, 10, 11] (by kernel_rfl) (by kernel_rfl) rfl (by kernel_rfl) (by kernel_rfl) HR.out ?_
        iterate 9 (apply wpPlan2_val; (case ho => rfl); (case hst => rfl); (case hw => rfl); (case hv => intro w' hS; first | (obtain ⟨⟨c0, c1⟩, c2, c3⟩ := hS rfl; go_simp; first | done | rfl) | (clear hS; go_simp; first | done | rfl)); intro K hK; go_simp; refine hK _ ?_; clear hK K)
        refine wpPlan2_list rfl rfl rfl (fun K hK => ?_)
        refine wpList_step (fun K2 hK2 => ?_)
        go_simp
        refine (cmp_any x z wr.drew).mono ?_
        rintro e2 w2 ⟨rfl, hb2⟩
        have HO1 := hid ((HO.out.drew).new hb2)
        have HC1 := hid (HC.out.trans (Chg.drewN' (n := 1) (Chg.new hb2 _)) (fun _ _ h => h))
        clear hb2
        go_simp
        refine hK2 _ _ ?_
        clear hK2 K2
        simp only [wpList]
        refine hK _ _ (fun h => by cases h) ?_
        clear hK K
        iterate 2 (apply wpPlan2_val; (case ho => rfl); (case hst => rfl); (case hw => rfl); (case hv => intro w' hS; first | (obtain ⟨⟨c0, c1⟩, c2, c3⟩ := hS rfl; go_simp; first | done | rfl) | (clear hS; go_simp; first | done | rfl)); intro K hK; go_simp; refine hK _ ?_; clear hK K)
        refine wpPlan2_nil ?_
        simp only [Qn]
        go_wp2_with fail
        go_roundw
        case rel => exact ⟨h + 1, j, t + 1, v, by go_num, rfl, by omega, by omega, hjb, by have := HUV.out; omega, HUV.out.2.1, hid (fun h0 hu => by simp only [Nat.add_sub_cancel]; rw [HZ.out]; simpa using HCC.out), HV, HO1, HC1⟩
        case measure => simp [intOf]; omega
        case roundEnd => exfalso; rename_i hx; revert hx; simpa using hneg
    · have hij2 : i = j := by omega
      subst hij2
      have huv : u = v := by omega
      subst huv
      have HUU := hid hu
      clear hu hv
      have hfin : A.take u ++ x :: A.drop u = srt KR (A ++ [x]) := by
        have hub : u ≤ A.length := by have := HA.out; have := HUU.out; omega
        have hs := HSA.out
        rw [← List.take_append_drop u A] at hs
        have hs := Sd.app.1 hs
        refine srt_snoc HSA.out (List.take_append_drop u A).symm (hs.1.last (fun hne => ?_)) (hs.2.1.firstlt (fun hne => ?_))
        · have h0 : 0 < u := by cases u with
            | zero => simp at hne
            | succ _ => omega
          rw [getLast_take hub h0]
          exact HU.out h0 (by omega)
        · have h0 : u < A.length := by
            rcases Nat.lt_or_ge u A.length with h | h
            · exact h
            · exact absurd (List.drop_of_length_le h) hne
          rw [head_drop h0]
          exact HV.out h0
      have HF := hid hfin
      clear hfin
      go_wp2_with fail
      go_loopw [17] (fun vk wr => ∃ (k t : Nat), vk = .int .i64 k ∧ i ≤ k ∧ k ≤ m ∧ Hid (k = a + t ∧ u ≤ t ∧ t ≤ A.length) ∧ Hid (Ro wr g (X ++ (A.take t ++ x :: (A.drop t ++ Y))) r) ∧ Hid (Chg (fun k => k = g) w wr)) (fun vk _ => (intOf vk).toNat)
      case atStart => exact ⟨m, A.length, rfl, hjb, Nat.le_refl _, ⟨HA.out.2.1, by have := HA.out; have := HUU.out; omega, Nat.le_refl _⟩, by rw [List.take_length, List.drop_length]; exact HO, HC⟩
      case round =>
        obtain ⟨k, t, rfl, hak, hki, HK, HO, HC⟩ := hrel
        by_cases hlt : i < k
        · have hlt2 : (i : Int) < (k : Int) := by omega
          obtain ⟨t1, htt⟩ : ∃ t1, t = t1 + 1 := ⟨t - 1, by have := HK.out; have := HUU.out; omega⟩
          have htB : t1 < A.length := by have := HK.out; omega
          obtain ⟨z, hz⟩ : ∃ z, A[t1] = z := ⟨_, rfl⟩
          obtain ⟨k1, hk1⟩ : ∃ k1, k = k1 + 1 := ⟨k - 1, by omega⟩
          have hk2 : (k : Int) - 1 = (k1 : Int) := by omega
          have hd : A.drop t1 = z :: A.drop t := by rw [List.drop_eq_getElem_cons htB, hz, htt]
          have ht1 : A.take t = A.take t1 ++ [z] := by rw [htt, List.take_add_one, List.getElem?_eq_getElem htB, hz]; rfl
          have hL : X ++ (A.take t ++ x :: (A.drop t ++ Y)) = (X ++ A.take t1) ++ z :: x :: (A.drop t ++ Y) := by rw [ht1]; simp
          rw [hL] at HO
          have hkl : k1 = (X ++ A.take t1).length := by have := HA.out.1; have := HK.out; simp; omega
          have hat1 : ((X ++ A.take t1) ++ z :: x :: (A.drop t ++ Y))[k]? = some x := get3 (by omega)
          have hat2 : ((X ++ A.take t1) ++ z :: x :: (A.drop t ++ Y))[k1]? = some z := get2 hkl
          have hset : (((X ++ A.take t1) ++ z :: x :: (A.drop t ++ Y)).set k z).set k1 x = (X ++ A.take t1) ++ x :: z :: (A.drop t ++ Y) := set2r (by omega) hkl
          generalize hLLL : ((X ++ A.take t1) ++ z :: x :: (A.drop t ++ Y)) = L at HO hat1 hat2 hset
          have hkl1 : k < L.length := (List.getElem?_eq_some_iff.1 hat1).1
          have hkl2 : k1 < L.length := (List.getElem?_eq_some_iff.1 hat2).1
          have HR := hid (And.intro (HO.out.of hat1) (HO.out.of hat2))
          have HS := hid hset
          have HD := hid hd
          have HK1 := hid (And.intro hk1 htt)
          have hy1 : z.1.oneCell' = true := H1.out z (by rw [← hz]; simp [List.getElem_mem htB])
          have hkN : (k : Int) < (N : Int) := by omega
          have hk1N : (k1 : Int) < (N : Int) := by omega
          clear hL hat2 hat1 hset hLLL hd ht1 hkl hz htB hk1 htt
          go_wp2_with fail
          have hw1 : IntKind.i64.wrap (k : Int) = (k : Int) := IntWalk.i64_in _ (by omega)
          have hw2 : IntKind.i64.wrap (k1 : Int) = (k1 : Int) := IntWalk.i64_in _ (by omega)
          refine wp_region_plan2 (fun w' => RwAt w' g k x ∧ RwAt w' g k1 z) (fun j => !([15, 16, 17].contains j)) (fun j => [9, 13].contains j) (fun j => [15, 16, 17].contains j)
            [0, 1, 2, 3, 4, 5, 6, 7, 8, 9, 10, 11, 12, 13, 14, 15, 16, 17] (by kernel_rfl) (by kernel_rfl) rfl (by kernel_rfl) (by kernel_rfl) HR.out ?_
          iterate 15 (apply wpPlan2_val; (case ho => rfl); (case hst => rfl); (case hw => rfl); (case hv => intro w' hS; first | (obtain ⟨⟨c0, c1⟩, c2, c3⟩ := hS rfl; go_simp; first | done | rfl) | (clear hS; go_simp; first | done | rfl)); intro K hK; go_simp; refine hK _ ?_; clear hK K)
          refine wpPlan2_list rfl rfl rfl (fun K hK => ?_)
          refine wpList_store_row rfl _ _ rfl g k L r z rfl rfl HO.out hkl1 hy1 (fun w1 ho1 hc1 hs1 => ?_)
          have HO1 := hid ho1
          have HC1 := hid (HC.out.trans (Chg.drewN' (n := 1) hc1) (fun _ _ h => h))
          clear ho1 hc1
          go_simp
          simp only [wpList]
          refine hK _ _ (fun h => by cases h) ?_
          clear hK K
          refine wpPlan2_list rfl rfl rfl (fun K hK => ?_)
          refine wpList_step (fun K2 hK2 => ?_)
          go_simp
          refine hK2 _ _ ?_
          clear hK2 K2
          simp only [wpList]
          refine hK _ _ (fun h => by cases h) ?_
          clear hK K
          refine wpPlan2_list rfl rfl rfl (fun K hK => ?_)
          refine wpList_store_row rfl _ _ rfl g k1 (L.set k z) r x rfl rfl HO1.out (by rw [List.length_set]; exact hkl2) hx1 (fun w2 ho2 hc2 hs2 => ?_)
          rw [HS.out] at ho2
          have HO2 := hid ho2
          have HC2 := hid (HC1.out.trans hc2 (fun _ _ h => h))
          clear ho2 hc2
          go_simp
          simp only [wpList]
          refine hK _ _ (fun h => by cases h) ?_
          clear hK K
          refine wpPlan2_nil ?_
          simp only [Qn]
          go_wp2_with fail
          go_roundw
          case rel => exact ⟨k1, t1, by go_num, by have := HK1.out; omega, by have := HK1.out; omega, ⟨by have := HK1.out; have := HK.out.1; omega, by have := HK.out; have := HK1.out; have := HA.out; have := HUU.out; omega, by have := HK.out; have := HK1.out; omega⟩, by rw [HD.out]; have := HO2.out; exact hid (by simpa using this), HC2⟩
          case measure => have := HK1.out; simp [intOf]; omega
        · have hlt2 : ¬ (i : Int) < (k : Int) := by omega
          have htu : t = u := by have := HK.out; have := HA.out; have := HUU.out; omega
          subst htu
          go_wp2_with fail
          refine bodyPost_ret (results_none rfl _ _ _) rfl ?_
          refine ⟨rfl, ?_, HC.out⟩
          have h9 := HO.out
          rw [show X ++ (A.take t ++ x :: (A.drop t ++ Y)) = X ++ ((A.take t ++ x :: A.drop t) ++ Y) by simp, HF.out] at h9
          exact h9
end Go.Proofs.Ytkhdadbbgfjcgaa
