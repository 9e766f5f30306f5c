/- triadlaw4.PagerFull: the walk. -/
import Derived.Test.YtiphekepglihlaaFull
namespace Go.Proofs.Ytiphekepglihlaa
open Go.RowKit Go.Maps
set_option linter.unusedVariables false

set_option maxRecDepth 100000 in
set_option maxHeartbeats 4000000 in
theorem pagerFull_walk (a0 a1 : Int) (w : World) (w0 : (Lit.int .i64 a0).wf = true) (w1 : (Lit.int .i64 a1).wf = true) :
    Calls Try.prog 6 #[.int .i64 a0, .int .i64 a1] w fun e w' => e = .returned (.bool true) ∧ Below w.heap.size w w' := by
  have hm0 : 0 ≤ a0 % 15 := Int.emod_nonneg _ (by omega)
  have hm1 : a0 % 15 < 15 := Int.emod_lt_of_pos _ (by omega)
  have WI := hid (fun w => within_any w a0 15 (by omega) (by omega))
  obtain ⟨n, hn⟩ : ∃ n : Nat, 403 + a0 % 15 = (n : Int) := ⟨(403 + a0 % 15).toNat, by omega⟩
  have hn0 : 403 ≤ n := by omega
  have hn1 : n ≤ 417 := by omega
  have hw1 : IntKind.i64.wrap (403 + a0 % 15) = (n : Int) := by rw [hn]; exact i64_small (by omega) (by omega)
  have hw2 : IntKind.i64.wrap ((n : Int) - 402) = ((n - 402 : Nat) : Int) := by rw [i64_small (by omega) (by omega)]; omega
  clear w0 w1 hm0 hm1 hn
  go_enter Try.func6, Try.ntmps6
  go_wp2_with fail
  refine (known4_any _).mono ?_
  rintro e1 w1 ⟨rfl, hb⟩
  have B1 := hid hb
  clear hb
  go_wp2_with fail
  refine (WI.out _).mono ?_
  rintro e2 wx ⟨rfl, hw⟩
  subst hw
  generalize a0 % 15 = M at *
  clear WI
  go_wp2_with fail
  refine (dNew_any _ n).mono ?_
  rintro e2 w2 ⟨d, rfl, hd2, hb2, hd⟩
  rw [show clampN (n : Int) = n by unfold clampN; omega] at hd2
  have D2 := hid hd2
  have B2 := hid (B1.out.trans (hb2.mono B1.out.size))
  have hfp : Hid (∀ k, wx.heap.size ≤ k ∧ k < w2.heap.size → w.heap.size ≤ k) := hid (fun k hk => Nat.le_trans B1.out.size hk.1)
  clear hd2 hb2
  go_wp2_with fail
  refine (openW B2.out n (by omega) (by omega) d _ D2.out hfp.out).mono ?_
  rintro e3 w3 ⟨p, rfl, hv⟩
  have V3 := hid hv
  clear hv D2
  go_wp2_with fail
  refine V3.out.begin.mono ?_
  rintro e4 w4 ⟨rfl, hv⟩
  have V4 := hid hv
  have FR := hid (keptA_free fullZ 0 (n - 402))
  clear hv V3
  go_wp2_with fail
  refine V4.out.free.mono ?_
  rintro e4 wy ⟨rfl, hw⟩
  subst hw
  rw [show frees as0 (n - 402) = n - 402 by rw [← keptA_zero fullZ, keptA_free]; omega]
  have V5 := hid (show PgW w wy p d n (dNew n) as0 (keptA fullZ 0 0) true (1 + 2 * 0) from by rw [keptA_zero]; exact V4.out)
  clear V4 FR
  go_wp2_with fail
  go_loopw [7] (fun i wr => ∃ j : Nat, j ≤ n - 402 ∧ i = .int .i64 ((j : Int) + 1) ∧ PgW w wr p d n (dNew n) as0 (keptA fullZ j 0) true (1 + 2 * j)) (fun i _ => n + 2 - (intOf i).toNat)
  case atStart => exact ⟨0, Nat.zero_le _, rfl, V5.out⟩
  case round =>
    obtain ⟨j, hj, rfl, hv⟩ := hrel
    have V6 := hid hv
    clear hv V5
    have hwj : IntKind.i64.wrap ((j : Int) + 1 + 1) = (j : Int) + 1 + 1 := i64_small (by omega) (by omega)
    by_cases hlt : (j : Int) + 1 ≤ ((n - 402 : Nat) : Int)
    · have hwu := u8_page (j := j) (by omega)
      have hw3 : IntKind.i64.wrap (((n - 402 : Nat) : Int) - ((j : Int) + 1)) = ((n - 402 - (j + 1) : Nat) : Int) := by rw [i64_small (by omega) (by omega)]; omega
      go_wp2_with fail
      refine (V6.out.new (by omega)).mono ?_
      rw [fullA_new hn0 (by omega)]
      rintro e5 w5 ⟨rfl, hv⟩
      obtain ⟨F, N', v1, v2, v3, v4⟩ := hv
      have PV := hid v1
      have B5 := hid v3
      have HF := hid v4
      have HFL := hid v1.lt
      clear v1 v3 v4 V6
      go_wp2_with fail
      refine (PV.out.get ((j : Int) + 1)).mono ?_
      rw [fullA_got]
      rintro e6 w6 ⟨gp, gm, gc, rfl, hm, hb, hbe, hgg⟩
      have hm' : gm = 504 := hm
      subst hm'
      have HG := hid hgg
      have GB := hid (show Bs w6 (.slice gp 504 gc) (List.replicate 504 0) from hb)
      have PV6 := hid (PV.out.new' hbe)
      have B6 := hid (B5.out.trans (hbe.mono B5.out.size))
      clear hm hb hbe hgg PV B5
      go_wp2_with fail
      have GBd := hid (GB.out.new (below_drewN (Below.refl _ _) 1))
      have PVd := hid (show PgV w6.drew p d F n (dNew n) as0 _ true N' from PV6.out.new' (below_drewN (Below.refl _ _) 1))
      have Bd := hid (show Below w.heap.size w w6.drew from B6.out.trans ((below_drewN (Below.refl _ _) 1).mono B6.out.size))
      refine wp_region_plan (fun w' => Bs w' (.slice gp 504 gc) (List.replicate 504 0)) (fun k => !([14, 15, 23, 24, 29].contains k)) (fun k => false)
        (.of [0, 1, 2, 3, 4, 5, 6, 7, 8, 9, 10, 11, 12, 13, 14, 15, 16, 17, 18, 19, 20, 21, 22, 23, 24, 25, 26, 27, 28, 30, 31, 32, 33, 29, 34, 35]) (by kernel_rfl) (by kernel_rfl) rfl (by kernel_rfl) (by kernel_rfl) GBd.out ?_
      iterate 13 (apply wpPlan_val; (case ho => rfl); (case hst => rfl); (case hw => rfl); (case hv => intro w' hS; go_simp; first | done | rfl); intro K hK; go_simp; refine hK _ ?_; clear hK K)
      apply wpPlan_val
      case ho => rfl
      case hst => rfl
      case hw => rfl
      case hv => intro w' hS; exact exec_bytes_str 41 9 _ rfl 5 Try.underlying41 Try.underlying5 Try.underlying9 (.slice gp 504 gc) (List.replicate 504 0) rfl hS
      intro K hK; go_simp; refine hK _ ?_; clear hK K
      refine wpPlan_list rfl rfl rfl (fun K hK => ?_)
      refine wpList_wanted rfl ?_
      refine wpList_make_blk rfl _ _ 41 rfl 5 _ 1 1 Try.underlying41 infoU8 _ _ _ _ 504 rfl rfl rfl rfl (by omega) (by simp only [maxLen]; omega) ?_
      intro w7 hh hbm hlm
      rw [made_bytes] at hh
      have M7 := hid hh
      have BM := hid hbm
      have S7 : Hid (Bs w7 (.slice gp 504 gc) (List.replicate 504 0)) := hid (GBd.out.new hbm)
      clear hh hbm hlm
      simp only [wpList]
      refine hK _ _ (fun _ => S7.out) ?_
      clear hK K
      refine wpPlan_list rfl rfl rfl (fun K hK => ?_)
      refine wpList_wanted rfl ?_
      refine wpList_bytes_str rfl 41 9 _ rfl 5 Try.underlying41 Try.underlying5 Try.underlying9 _ (List.replicate 504 0) rfl (Bs.blk (n := 504) M7.out (by simp) (by simp only [maxLen]; omega)) ?_
      simp only [wpList]
      refine hK _ _ (fun _ => S7.out) ?_
      clear hK K
      iterate 7 (apply wpPlan_val; (case ho => rfl); (case hst => rfl); (case hw => rfl); (case hv => intro w' hS; go_simp; first | done | rfl); intro K hK; go_simp; refine hK _ ?_; clear hK K)
      have PV7 := hid (PVd.out.new' BM.out)
      have B7 := hid (Bd.out.trans (BM.out.mono Bd.out.size))
      refine wpPlan_list rfl rfl rfl (fun K hK => ?_)
      refine wpList_wanted rfl ?_
      refine wpList_step (fun K2 hK2 => ?_)
      go_simp
      refine hK2 _ _ ?_
      clear hK2 K2
      simp only [wpList]
      have hb8 : Below w7.heap.size w7 (w7.alloc (Obj.cells #[Value.int .u8 (((j : Int) + 1) % 256)] 5)) := (Below.refl _ _).alloc (Nat.le_refl _) _
      have hrd8 : Bs (w7.alloc (Obj.cells #[Value.int .u8 (((j : Int) + 1) % 256)] 5)) (.slice (some ⟨w7.heap.size, 0, none⟩) 1 1) [UInt8.ofNat (j + 1)] := by
        have h9 := Rd.fresh1 w7 (Value.int .u8 (((j : Int) + 1) % 256)) 5
        have e9 : [Value.int .u8 (((j : Int) + 1) % 256)] = bv [UInt8.ofNat (j + 1)] := by
          unfold bv
          rw [List.map_singleton, UInt8.toNat_ofNat']
          simp
        rw [e9] at h9
        exact h9
      refine hK _ _ (fun _ => S7.out.new hb8) ?_
      clear hK K
      have PV8 := hid (PV7.out.new' hb8)
      have B8 := hid (B7.out.trans (hb8.mono B7.out.size))
      have S8 := hid (S7.out.new hb8)
      have BY8 := hid hrd8
      clear hb8 hrd8 PV7 B7 S7
      generalize w7.alloc (Obj.cells #[Value.int .u8 (((j : Int) + 1) % 256)] 5) = w8 at *
      refine wpPlan_list rfl rfl rfl (fun K hK => ?_)
      refine wpList_wanted rfl ?_
      refine wpList_step (fun K2 hK2 => ?_)
      go_simp
      refine (PV8.out.put ((j : Int) + 1) _ [UInt8.ofNat (j + 1)] BY8.out (by simp) (by omega)).mono ?_
      rw [fullA_put (fullZ_get (by omega)) (by simp)]
      rintro e9 w9 ⟨rfl, hto⟩
      have S9 := hid (S8.out.chg (show Chg F w8 w9 by obtain ⟨_, _, _, _, h, _⟩ := hto; exact h) (fun _ g hg _ hk => by
        have h1 := HG.out g hg
        have h2 := HFL.out g hk
        omega))
      have V9 := hid (PgW.of B8.out HF.out hto)
      clear hto PV8 S8 BY8 B8
      go_simp
      refine hK2 _ _ ?_
      clear hK2 K2
      simp only [wpList]
      refine hK _ _ (fun _ => S9.out) ?_
      clear hK K
      iterate 8 (apply wpPlan_val; (case ho => rfl); (case hst => rfl); (case hw => rfl); (case hv => intro w' hS; go_simp; first | done | rfl); intro K hK; go_simp; refine hK _ ?_; clear hK K)
      refine wpPlan_list rfl rfl rfl (fun K hK => ?_)
      refine wpList_wanted rfl ?_
      refine wpList_step (fun K2 hK2 => ?_)
      go_simp
      refine V9.out.free.mono ?_
      rw [keptA_free]
      rintro e10 wz ⟨rfl, hw⟩
      subst hw
      go_simp
      refine hK2 _ _ ?_
      clear hK2 K2
      simp only [wpList]
      refine hK _ _ (fun _ => S9.out) ?_
      clear hK K
      iterate 2 (apply wpPlan_val; (case ho => rfl); (case hst => rfl); (case hw => rfl); (case hv => intro w' hS; go_simp; first | done | rfl); intro K hK; go_simp; refine hK _ ?_; clear hK K)
      refine wpPlan_nil ?_
      simp only [Qn]
      go_wp2_with fail
      go_roundw
      case rel =>
        refine ⟨j + 1, by omega, by push_cast; rfl, ?_⟩
        obtain ⟨F9, N9, a, b, c, dd⟩ := V9.out
        exact ⟨F9, N9, a, by omega, c, dd⟩
      case measure => simp [intOf]; omega
    · have hjn : n - 402 = j := by omega
      subst hjn
      have WK := hid (fun w => within_any w a1 ((n - 402 : Nat) : Int) (by omega) (by omega))
      have hk0 : 0 ≤ a1 % ((n - 402 : Nat) : Int) := Int.emod_nonneg _ (by omega)
      have hk1 : a1 % ((n - 402 : Nat) : Int) < ((n - 402 : Nat) : Int) := Int.emod_lt_of_pos _ (by omega)
      go_wp2_with fail
      refine (V6.out.new (by omega)).mono ?_
      rw [fullA_no hn0]
      rintro e5 w5 ⟨rfl, hv⟩
      have V7 := hid hv
      clear hv V6
      go_wp2_with fail
      refine (WK.out _).mono ?_
      rintro e6 wz ⟨rfl, hw⟩
      subst hw
      have hwk : IntKind.i64.wrap (1 + a1 % ((n - 402 : Nat) : Int)) = 1 + a1 % ((n - 402 : Nat) : Int) := i64_small (by omega) (by omega)
      go_wp2_with fail
      have hkb : 1 ≤ 1 + a1 % ((n - 402 : Nat) : Int) ∧ 1 + a1 % ((n - 402 : Nat) : Int) ≤ ((n - 402 : Nat) : Int) := by omega
      generalize 1 + a1 % ((n - 402 : Nat) : Int) = k at *
      clear WK hk0 hk1 hwk
      refine (V7.out.drop k (by omega)).mono ?_
      rw [fullA_drop hkb]
      rintro e7 w7 ⟨rfl, hv⟩
      have V8 := hid hv
      clear hv V7
      obtain ⟨A, hA, hG⟩ := fullA_back (n := n) (m := n - 402) (zs := fullZ) (k := k)
      have HA := hid hA
      have HGA := hid hG
      clear hA hG
      go_wp2_with fail
      refine (V8.out.new (by omega)).mono ?_
      rw [HA.out]
      rintro e8 w8 ⟨rfl, hv⟩
      have V9 := hid hv
      clear hv V8 HA
      go_wp2_with fail
      refine (V9.out.get k).mono ?_
      rw [HGA.out]
      rintro e9 w9 ⟨gp, gm, gc, rfl, hm, hb, hv, _⟩
      have hm' : gm = 504 := hm
      subst hm'
      have GB := hid (show Bs w9 (.slice gp 504 gc) (List.replicate 504 0) from hb)
      have V10 := hid hv
      clear hv hm hb V9 HGA
      go_wp2_with fail
      have GBd := hid (GB.out.new (below_drewN (Below.refl _ _) 1))
      have V10d := hid (show PgW w w9.drew p d n (dNew n) as0 A true _ from V10.out.new' (below_drewN (Below.refl _ _) 1))
      refine wp_region_plan (fun w' => Bs w' (.slice gp 504 gc) (List.replicate 504 0)) (fun k => !([14, 15, 20, 21, 22, 23].contains k)) (fun k => [20, 21, 22, 23].contains k)
        (.of [0, 1, 2, 3, 4, 5, 6, 7, 8, 9, 10, 11, 12, 13, 14, 15, 16, 17, 18, 19, 20, 21, 22, 23]) (by kernel_rfl) (by kernel_rfl) rfl (by kernel_rfl) (by kernel_rfl) GBd.out ?_
      iterate 13 (apply wpPlan_val; (case ho => rfl); (case hst => rfl); (case hw => rfl); (case hv => intro w' hS; go_simp; first | done | rfl); intro K hK; go_simp; refine hK _ ?_; clear hK K)
      apply wpPlan_val
      case ho => rfl
      case hst => rfl
      case hw => rfl
      case hv => intro w' hS; exact exec_bytes_str 41 9 _ rfl 5 Try.underlying41 Try.underlying5 Try.underlying9 (.slice gp 504 gc) (List.replicate 504 0) rfl hS
      intro K hK; go_simp; refine hK _ ?_; clear hK K
      refine wpPlan_list rfl rfl rfl (fun K hK => ?_)
      refine wpList_wanted rfl ?_
      refine wpList_make_blk rfl _ _ 41 rfl 5 _ 1 1 Try.underlying41 infoU8 _ _ _ _ 504 rfl rfl rfl rfl (by omega) (by simp only [maxLen]; omega) ?_
      intro w10 hh hbm hlm
      rw [made_bytes] at hh
      have M7 := hid hh
      have BM := hid hbm
      have S7 : Hid (Bs w10 (.slice gp 504 gc) (List.replicate 504 0)) := hid (GBd.out.new hbm)
      clear hh hbm hlm
      simp only [wpList]
      refine hK _ _ (fun _ => S7.out) ?_
      clear hK K
      refine wpPlan_list rfl rfl rfl (fun K hK => ?_)
      refine wpList_wanted rfl ?_
      refine wpList_bytes_str rfl 41 9 _ rfl 5 Try.underlying41 Try.underlying5 Try.underlying9 _ (List.replicate 504 0) rfl (Bs.blk (n := 504) M7.out (by simp) (by simp only [maxLen]; omega)) ?_
      simp only [wpList]
      refine hK _ _ (fun _ => S7.out) ?_
      clear hK K
      iterate 4 (apply wpPlan_val; (case ho => rfl); (case hst => rfl); (case hw => rfl); (case hv => intro w' hS; go_simp; first | done | rfl); intro K hK; go_simp; refine hK _ ?_; clear hK K)
      have V11 := hid (V10d.out.new' BM.out)
      refine wpPlan_list rfl rfl rfl (fun K hK => ?_)
      refine wpList_wanted rfl ?_
      refine wpList_step (fun K2 hK2 => ?_)
      go_simp
      refine (V11.out.commit (by omega) (by show (0 : Int) + 3000 ≤ 1000000; decide) (by show (0 : Int) < 1; decide)).mono ?_
      rintro e11 w11 ⟨s1, rfl, hv, hst, hops⟩
      have V12 := hid hv
      clear hv hst hops V11 V10d
      go_simp
      refine hK2 _ _ ?_
      clear hK2 K2
      simp only [wpList]
      refine hK _ _ (fun h => by cases h) ?_
      clear hK K
      iterate 3 (refine wpPlan_list rfl rfl rfl (fun K hK => ?_); refine wpList_wanted rfl ?_; refine wpList_step (fun K2 hK2 => ?_); go_simp; refine hK2 _ _ ?_; clear hK2 K2; simp only [wpList]; refine hK _ _ (fun h => by cases h) ?_; clear hK K)
      refine wpPlan_nil ?_
      simp only [Qn]
      go_wp2_with fail
      go_ret
      exact ⟨rfl, V12.out.below⟩
end Go.Proofs.Ytiphekepglihlaa
