/- triadlaw5.BtreeLong: the walk. -/
import Derived.Test.YtdilkgcoecipjaaBtX
import Derived.Test.YtdilkgcoecipjaaZer
import Derived.Test.YtdilkgcoecipjaaArgs
namespace Go.Proofs.Ytdilkgcoecipjaa
open Go.RowKit Go.Maps
set_option linter.unusedVariables false

theorem long_ok {k v : Tx} (h1 : k.length ≤ 140) (h2 : k.length + v.length ≤ 150) : OkN ⟨true, [] ++ [k], [] ++ [v], []⟩ := by
  unfold OkN
  rw [if_pos rfl]
  refine ⟨rfl, rfl, fun e he => ?_⟩
  have he : e = (k, v) := by simpa using he
  subst he
  exact ⟨h1, h2⟩
theorem long_size {k v : Tx} (h2 : k.length + v.length ≤ 150) : sizeP ⟨true, [] ++ [k], [] ++ [v], []⟩ ≤ 504 := by
  unfold sizeP costs
  rw [if_pos rfl]
  simp
  omega
theorem upd_on (Nf : Nat → Option Nd) (r : Nat) (k v : Tx) : TrOk 0 ((r, [(k, v)]) : Tr 0) (updN Nf r (some ⟨true, [] ++ [k], [] ++ [v], []⟩)) :=
  ⟨updN_same .., by show Asc [ent (k, v)]; exact List.pairwise_singleton _ _, .inl rfl, by show ([r] : List Nat).Nodup; simp, by show (1 : Nat) ≤ 1000; decide⟩

set_option maxRecDepth 100000 in
set_option maxHeartbeats 8000000 in
theorem btreeLong_walk (a0 a1 : Int) (w : World) (w0 : (Lit.int .i64 a0).wf = true) (w1 : (Lit.int .i64 a1).wf = true) : Calls Try.prog 3 #[.int .i64 a0, .int .i64 a1] w fun e w' => e = .returned (.bool true) ∧ Below w.heap.size w w' := by
  go_enter Try.func3, Try.ntmps3
  go_wp2_with fail
  refine (known5_any w).mono ?_
  rintro e1 wa ⟨rfl, hb1⟩
  have B1 := hid hb1
  clear hb1
  go_wp2_with fail
  refine (within5_any wa a0 8 (by decide) (by decide)).mono ?_
  rintro e2 wx ⟨rfl, hw⟩
  subst hw
  obtain ⟨n8, hn8, hn8b⟩ : ∃ m : Nat, a0 % 8 = (m : Int) ∧ m < 8 := ⟨(a0 % 8).toNat, by omega, by omega⟩
  rw [hn8]
  clear hn8
  go_wp2_with fail
  refine (within5_any _ a1 16 (by decide) (by decide)).mono ?_
  rintro e3 wx ⟨rfl, hw⟩
  subst hw
  obtain ⟨mm, hmm, hmmb⟩ : ∃ m : Nat, a1 % 16 = (m : Int) ∧ m < 16 := ⟨(a1 % 16).toNat, by omega, by omega⟩
  rw [hmm]
  clear hmm
  obtain ⟨nn, hnn⟩ : ∃ m : Nat, 136 + n8 = m := ⟨_, rfl⟩
  have hnn2 : (136 : Int) + (n8 : Int) = (nn : Int) := by omega
  have hnb : nn ≤ 143 := by omega
  try rw [hnn2]
  clear hnn hn8b
  go_wp2_with fail
  refine (open5_any' _).mono ?_
  rintro e4 wb ⟨p, d, F, N, rfl, hv, hN, hb, hF⟩
  have V1 := hid hv
  have B2 := hid (B1.out.trans (hb.mono B1.out.size))
  have HF : Hid (∀ k, F k → w.heap.size ≤ k) := hid (fun k hk => Nat.le_trans B1.out.size (hF k hk))
  clear hv hb hF B1
  go_wp2_with fail
  refine (bnew_any wb p d F _ _ _ N _ 0 1190 V1.out (by omega) (sto_zero 1190) (by omega) (by omega)).mono ?_
  rintro e5 wc ⟨r, T2, rfl, hp3, hs3, _, hk6, hr3⟩
  have HWH := hid (whole_new (T1 := as0) (U := 0) hs3)
  have hrt : T2.root = 0 := hr3
  have HRT := hid hrt
  obtain ⟨F3, N3, hv3, hN3, hc3, hF3⟩ := hp3
  have V3 := hid hv3
  have B3 := hid (B2.out.trans (hc3.below (fun k hk => HF.out k hk) B2.out.size))
  have HF3 : Hid (∀ k, F3 k → w.heap.size ≤ k) := hid (fun k hk => (hF3 k hk).elim (HF.out k) (fun h => Nat.le_trans B2.out.size h))
  clear hs3 hv3 hc3 hF3 V1 B2 HF hrt hr3
  go_wp2_with fail
  have hmk := fun (x : World) => make_bytes .i64 .i64 nn (by omega) x
  have hmv := fun (x : World) => make_bytes .i64 .i64 mm (by omega) x
  have HMK := hid hmk
  have HMV := hid hmv
  clear hmk hmv
  by_cases hfine : nn ≤ 140 ∧ nn + mm ≤ 150
  · refine wp_region_plan3 (fun _ => True) (fun j => !([3, 4, 6, 7, 8].contains j)) (fun _ => false) (fun _ => false)
      (.cons 0 (.cons 1 (.cons 2 (.cons 5 (.fork 3 6 (.fork 4 6 (.cons 6 (.cons 7 (.cons 8 (.cons 9 (.cons 10 (.cons 11 (.cons 12 (.cons 13 .nil)))))))) (.fork 4 7 (.cons 7 (.cons 8 (.cons 9 (.cons 10 (.cons 11 (.cons 12 (.cons 13 .nil))))))) (.cons 4 (.cons 8 (.cons 9 (.cons 10 (.cons 11 (.cons 12 (.cons 13 .nil))))))))) (.fork 3 7 (.fork 4 7 (.cons 7 (.cons 8 (.cons 9 (.cons 10 (.cons 11 (.cons 12 (.cons 13 .nil))))))) (.cons 4 (.cons 8 (.cons 9 (.cons 10 (.cons 11 (.cons 12 (.cons 13 .nil)))))))) (.cons 3 (.cons 4 (.cons 8 (.cons 9 (.cons 10 (.cons 11 (.cons 12 (.cons 13 .nil)))))))))))))) (by kernel_rfl) (by kernel_rfl) rfl (by kernel_rfl) (by kernel_rfl) trivial ?_
    iterate 4 (apply wpPlan3_val; (case ho => rfl); (case hst => rfl); (case hw => rfl); (case hv => intro w' hS; go_simp; first | done | rfl); intro K hK; go_simp; refine hK _ ?_; clear hK K)
    obtain ⟨wz, hwz⟩ : ∃ x, wc.drew = x := ⟨_, rfl⟩
    have HPz := hid (V3.out.new' (show Below wc.heap.size wc wz by rw [← hwz]; exact below_drewN (Below.refl _ _) 1))
    have HGz := hid (show Below w.heap.size w wz by rw [← hwz]; exact below_drewN B3.out 1)
    rw [hwz]
    clear hwz
    refine ⟨?_, ?_⟩
    · refine effect_list rfl rfl (fun K hK => ?_)
      refine wpList_step (fun K2 hK2 => ?_)
      go_simp
      rw [HMK.out]
      go_simp
      refine hK2 _ _ ?_
      clear hK2 K2
      simp only [wpList]
      have hal1 : Below wz.heap.size wz (wz.alloc (.cells (bv (List.replicate nn 0)).toArray 5)) := (Below.refl _ _).alloc (Nat.le_refl _) _
      obtain ⟨b1, hb1⟩ : ∃ b, wz.heap.size = b := ⟨_, rfl⟩
      obtain ⟨w1, hw1⟩ : ∃ x, wz.alloc (.cells (bv (List.replicate nn 0)).toArray 5) = x := ⟨_, rfl⟩
      have HN1 : Hid (Bs w1 (.slice (some ⟨b1, 0, none⟩) nn nn) (List.replicate nn 0)) := hid (Bs.blk (T := TU) (by rw [← hw1, ← hb1]; exact heap_alloc_new _ _) (by simp) (by simp only [maxLen]; omega))
      rw [hw1] at hal1 ⊢
      rw [hb1]
      clear hw1 hb1
      have HP1 := hid (HPz.out.new' hal1)
      have HG1 := hid (HGz.out.trans (hal1.mono HGz.out.size))
      clear hal1
      refine hK _ _ (fun _ => trivial) ?_
      clear hK K
      refine ⟨?_, ?_⟩
      · refine effect_list rfl rfl (fun K hK => ?_)
        refine wpList_bytes_str rfl 30 9 _ rfl 5 Try.underlying30 Try.underlying5 Try.underlying9 (.slice (some ⟨b1, 0, none⟩) nn nn) (List.replicate nn 0) rfl HN1.out ?_
        simp only [wpList]
        refine hK _ _ (fun _ => trivial) ?_
        clear hK K
        rw [show (⟨(List.replicate nn (0 : UInt8)).toArray⟩ : ByteArray) = B (List.replicate nn 0) from rfl]
        refine wpPlan3_list rfl rfl rfl (fun K hK => ?_)
        refine wpList_step (fun K2 hK2 => ?_)
        go_simp
        rw [HMV.out]
        go_simp
        refine hK2 _ _ ?_
        clear hK2 K2
        simp only [wpList]
        have hal3 : Below w1.heap.size w1 (w1.alloc (.cells (bv (List.replicate mm 0)).toArray 5)) := (Below.refl _ _).alloc (Nat.le_refl _) _
        obtain ⟨b3, hb3⟩ : ∃ b, w1.heap.size = b := ⟨_, rfl⟩
        obtain ⟨w3, hw3⟩ : ∃ x, w1.alloc (.cells (bv (List.replicate mm 0)).toArray 5) = x := ⟨_, rfl⟩
        have HN3 : Hid (Bs w3 (.slice (some ⟨b3, 0, none⟩) mm mm) (List.replicate mm 0)) := hid (Bs.blk (T := TU) (by rw [← hw3, ← hb3]; exact heap_alloc_new _ _) (by simp) (by simp only [maxLen]; omega))
        rw [hw3] at hal3 ⊢
        rw [hb3]
        clear hw3 hb3
        have HA3 := hid (HN1.out.new hal3)
        have HP3 := hid (HP1.out.new' hal3)
        have HG3 := hid (HG1.out.trans (hal3.mono HG1.out.size))
        clear hal3
        refine hK _ _ (fun _ => trivial) ?_
        clear hK K
        refine wpPlan3_list rfl rfl rfl (fun K hK => ?_)
        refine wpList_bytes_str rfl 30 9 _ rfl 5 Try.underlying30 Try.underlying5 Try.underlying9 (.slice (some ⟨b3, 0, none⟩) mm mm) (List.replicate mm 0) rfl HN3.out ?_
        simp only [wpList]
        refine hK _ _ (fun _ => trivial) ?_
        clear hK K
        rw [show (⟨(List.replicate mm (0 : UInt8)).toArray⟩ : ByteArray) = B (List.replicate mm 0) from rfl]
        refine wpPlan3_list rfl rfl rfl (fun K hK => ?_)
        refine wpList_step (fun K2 hK2 => ?_)
        go_simp
        refine (set_end w3 p d F3 _ _ T2 N3 _ _ 1190 (List.replicate nn 0) (List.replicate mm 0) r [] [] (by simp; omega) (by simp; omega) (updN_same ..) (by rw [HRT.out]; decide) (by rw [HRT.out]; decide) List.Pairwise.nil rfl HP3.out (by omega) HWH.out.sto (long_ok (by simp; omega) (by simp; omega)) (long_size (by simp; omega))).mono ?_
        rintro e5 w5 ⟨T4, rfl, ⟨F4, N4, hv4, hN4, hc4, hF4⟩, hs4, _⟩
        have V4 := hid hv4
        have HS4 := hid hs4
        have B4 := hid (HG3.out.trans (hc4.below (fun k hk => HF3.out k hk) HG3.out.size))
        clear hv4 hN4 hc4 hF4 hs4
        go_simp
        refine hK2 _ _ ?_
        clear hK2 K2
        simp only [wpList]
        refine hK _ _ (fun _ => trivial) ?_
        clear hK K
        (apply wpPlan3_val; (case ho => rfl); (case hst => rfl); (case hw => rfl); (case hv => intro w' hS; go_simp; first | done | rfl); intro K hK; go_simp; refine hK _ ?_; clear hK K)
        (apply wpPlan3_val; (case ho => rfl); (case hst => rfl); (case hw => rfl); (case hv => intro w' hS; go_simp; first | done | rfl); intro K hK; go_simp; refine hK _ ?_; clear hK K)
        (apply wpPlan3_val; (case ho => rfl); (case hst => rfl); (case hw => rfl); (case hv => intro w' hS; go_simp; first | done | rfl); intro K hK; go_simp; refine hK _ ?_; clear hK K)
        (apply wpPlan3_val; (case ho => rfl); (case hst => rfl); (case hw => rfl); (case hv => intro w' hS; go_simp; first | done | rfl); intro K hK; go_simp; refine hK _ ?_; clear hK K)
        (apply wpPlan3_val; (case ho => rfl); (case hst => rfl); (case hw => rfl); (case hv => intro w' hS; go_simp; first | done | rfl); intro K hK; go_simp; refine hK _ ?_; clear hK K)
        refine wpPlan3_nil ?_
        simp only [Qn]
        have h1 : (nn : Int) ≤ 140 := by omega
        have h2 : (nn : Int) + (mm : Int) ≤ 150 := by omega
        go_wp2_with fail
        refine (count_any' w5 p d F4 1600 _ _ T4 true N4 _ 0 ((r, [(List.replicate nn 0, List.replicate mm 0)]) : Tr 0) HS4.out.vw V4.out (upd_on _ r _ _)).mono ?_
        rintro e6 w6 ⟨rfl, hb6⟩
        have BF := hid (B4.out.trans (hb6.mono B4.out.size))
        clear hb6
        rw [show ((ents (toks 0 ((r, [(List.replicate nn (0 : UInt8), List.replicate mm (0 : UInt8))]) : Tr 0))).length : Int) = 1 from rfl]
        go_wp2_with fail
        go_ret
        exact ⟨rfl, BF.out⟩
      · refine effect_list rfl rfl (fun K hK => ?_)
        refine wpList_step (fun K2 hK2 => ?_)
        go_simp
        rw [HMV.out]
        go_simp
        refine hK2 _ _ ?_
        clear hK2 K2
        simp only [wpList]
        have hal7 : Below w1.heap.size w1 (w1.alloc (.cells (bv (List.replicate mm 0)).toArray 5)) := (Below.refl _ _).alloc (Nat.le_refl _) _
        obtain ⟨b7, hb7⟩ : ∃ b, w1.heap.size = b := ⟨_, rfl⟩
        obtain ⟨w7, hw7⟩ : ∃ x, w1.alloc (.cells (bv (List.replicate mm 0)).toArray 5) = x := ⟨_, rfl⟩
        have HN7 : Hid (Bs w7 (.slice (some ⟨b7, 0, none⟩) mm mm) (List.replicate mm 0)) := hid (Bs.blk (T := TU) (by rw [← hw7, ← hb7]; exact heap_alloc_new _ _) (by simp) (by simp only [maxLen]; omega))
        rw [hw7] at hal7 ⊢
        rw [hb7]
        clear hw7 hb7
        have HA7 := hid (HN1.out.new hal7)
        have HP7 := hid (HP1.out.new' hal7)
        have HG7 := hid (HG1.out.trans (hal7.mono HG1.out.size))
        clear hal7
        refine hK _ _ (fun _ => trivial) ?_
        clear hK K
        refine ⟨?_, ?_⟩
        · refine effect_list rfl rfl (fun K hK => ?_)
          refine wpList_bytes_str rfl 30 9 _ rfl 5 Try.underlying30 Try.underlying5 Try.underlying9 (.slice (some ⟨b1, 0, none⟩) nn nn) (List.replicate nn 0) rfl HA7.out ?_
          simp only [wpList]
          refine hK _ _ (fun _ => trivial) ?_
          clear hK K
          rw [show (⟨(List.replicate nn (0 : UInt8)).toArray⟩ : ByteArray) = B (List.replicate nn 0) from rfl]
          refine wpPlan3_list rfl rfl rfl (fun K hK => ?_)
          refine wpList_bytes_str rfl 30 9 _ rfl 5 Try.underlying30 Try.underlying5 Try.underlying9 (.slice (some ⟨b7, 0, none⟩) mm mm) (List.replicate mm 0) rfl HN7.out ?_
          simp only [wpList]
          refine hK _ _ (fun _ => trivial) ?_
          clear hK K
          rw [show (⟨(List.replicate mm (0 : UInt8)).toArray⟩ : ByteArray) = B (List.replicate mm 0) from rfl]
          refine wpPlan3_list rfl rfl rfl (fun K hK => ?_)
          refine wpList_step (fun K2 hK2 => ?_)
          go_simp
          refine (set_end w7 p d F3 _ _ T2 N3 _ _ 1190 (List.replicate nn 0) (List.replicate mm 0) r [] [] (by simp; omega) (by simp; omega) (updN_same ..) (by rw [HRT.out]; decide) (by rw [HRT.out]; decide) List.Pairwise.nil rfl HP7.out (by omega) HWH.out.sto (long_ok (by simp; omega) (by simp; omega)) (long_size (by simp; omega))).mono ?_
          rintro e10 w10 ⟨T4, rfl, ⟨F4, N4, hv4, hN4, hc4, hF4⟩, hs4, _⟩
          have V4 := hid hv4
          have HS4 := hid hs4
          have B4 := hid (HG7.out.trans (hc4.below (fun k hk => HF3.out k hk) HG7.out.size))
          clear hv4 hN4 hc4 hF4 hs4
          go_simp
          refine hK2 _ _ ?_
          clear hK2 K2
          simp only [wpList]
          refine hK _ _ (fun _ => trivial) ?_
          clear hK K
          (apply wpPlan3_val; (case ho => rfl); (case hst => rfl); (case hw => rfl); (case hv => intro w' hS; go_simp; first | done | rfl); intro K hK; go_simp; refine hK _ ?_; clear hK K)
          (apply wpPlan3_val; (case ho => rfl); (case hst => rfl); (case hw => rfl); (case hv => intro w' hS; go_simp; first | done | rfl); intro K hK; go_simp; refine hK _ ?_; clear hK K)
          (apply wpPlan3_val; (case ho => rfl); (case hst => rfl); (case hw => rfl); (case hv => intro w' hS; go_simp; first | done | rfl); intro K hK; go_simp; refine hK _ ?_; clear hK K)
          (apply wpPlan3_val; (case ho => rfl); (case hst => rfl); (case hw => rfl); (case hv => intro w' hS; go_simp; first | done | rfl); intro K hK; go_simp; refine hK _ ?_; clear hK K)
          (apply wpPlan3_val; (case ho => rfl); (case hst => rfl); (case hw => rfl); (case hv => intro w' hS; go_simp; first | done | rfl); intro K hK; go_simp; refine hK _ ?_; clear hK K)
          refine wpPlan3_nil ?_
          simp only [Qn]
          have h1 : (nn : Int) ≤ 140 := by omega
          have h2 : (nn : Int) + (mm : Int) ≤ 150 := by omega
          go_wp2_with fail
          refine (count_any' w10 p d F4 1600 _ _ T4 true N4 _ 0 ((r, [(List.replicate nn 0, List.replicate mm 0)]) : Tr 0) HS4.out.vw V4.out (upd_on _ r _ _)).mono ?_
          rintro e11 w11 ⟨rfl, hb11⟩
          have BF := hid (B4.out.trans (hb11.mono B4.out.size))
          clear hb11
          rw [show ((ents (toks 0 ((r, [(List.replicate nn (0 : UInt8), List.replicate mm (0 : UInt8))]) : Tr 0))).length : Int) = 1 from rfl]
          go_wp2_with fail
          go_ret
          exact ⟨rfl, BF.out⟩
        · refine effect_list rfl rfl (fun K hK => ?_)
          refine wpList_bytes_str rfl 30 9 _ rfl 5 Try.underlying30 Try.underlying5 Try.underlying9 (.slice (some ⟨b7, 0, none⟩) mm mm) (List.replicate mm 0) rfl HN7.out ?_
          simp only [wpList]
          refine hK _ _ (fun _ => trivial) ?_
          clear hK K
          rw [show (⟨(List.replicate mm (0 : UInt8)).toArray⟩ : ByteArray) = B (List.replicate mm 0) from rfl]
          refine wpPlan3_list rfl rfl rfl (fun K hK => ?_)
          refine wpList_bytes_str rfl 30 9 _ rfl 5 Try.underlying30 Try.underlying5 Try.underlying9 (.slice (some ⟨b1, 0, none⟩) nn nn) (List.replicate nn 0) rfl HA7.out ?_
          simp only [wpList]
          refine hK _ _ (fun _ => trivial) ?_
          clear hK K
          rw [show (⟨(List.replicate nn (0 : UInt8)).toArray⟩ : ByteArray) = B (List.replicate nn 0) from rfl]
          refine wpPlan3_list rfl rfl rfl (fun K hK => ?_)
          refine wpList_step (fun K2 hK2 => ?_)
          go_simp
          refine (set_end w7 p d F3 _ _ T2 N3 _ _ 1190 (List.replicate nn 0) (List.replicate mm 0) r [] [] (by simp; omega) (by simp; omega) (updN_same ..) (by rw [HRT.out]; decide) (by rw [HRT.out]; decide) List.Pairwise.nil rfl HP7.out (by omega) HWH.out.sto (long_ok (by simp; omega) (by simp; omega)) (long_size (by simp; omega))).mono ?_
          rintro e14 w14 ⟨T4, rfl, ⟨F4, N4, hv4, hN4, hc4, hF4⟩, hs4, _⟩
          have V4 := hid hv4
          have HS4 := hid hs4
          have B4 := hid (HG7.out.trans (hc4.below (fun k hk => HF3.out k hk) HG7.out.size))
          clear hv4 hN4 hc4 hF4 hs4
          go_simp
          refine hK2 _ _ ?_
          clear hK2 K2
          simp only [wpList]
          refine hK _ _ (fun _ => trivial) ?_
          clear hK K
          (apply wpPlan3_val; (case ho => rfl); (case hst => rfl); (case hw => rfl); (case hv => intro w' hS; go_simp; first | done | rfl); intro K hK; go_simp; refine hK _ ?_; clear hK K)
          (apply wpPlan3_val; (case ho => rfl); (case hst => rfl); (case hw => rfl); (case hv => intro w' hS; go_simp; first | done | rfl); intro K hK; go_simp; refine hK _ ?_; clear hK K)
          (apply wpPlan3_val; (case ho => rfl); (case hst => rfl); (case hw => rfl); (case hv => intro w' hS; go_simp; first | done | rfl); intro K hK; go_simp; refine hK _ ?_; clear hK K)
          (apply wpPlan3_val; (case ho => rfl); (case hst => rfl); (case hw => rfl); (case hv => intro w' hS; go_simp; first | done | rfl); intro K hK; go_simp; refine hK _ ?_; clear hK K)
          (apply wpPlan3_val; (case ho => rfl); (case hst => rfl); (case hw => rfl); (case hv => intro w' hS; go_simp; first | done | rfl); intro K hK; go_simp; refine hK _ ?_; clear hK K)
          refine wpPlan3_nil ?_
          simp only [Qn]
          have h1 : (nn : Int) ≤ 140 := by omega
          have h2 : (nn : Int) + (mm : Int) ≤ 150 := by omega
          go_wp2_with fail
          refine (count_any' w14 p d F4 1600 _ _ T4 true N4 _ 0 ((r, [(List.replicate nn 0, List.replicate mm 0)]) : Tr 0) HS4.out.vw V4.out (upd_on _ r _ _)).mono ?_
          rintro e15 w15 ⟨rfl, hb15⟩
          have BF := hid (B4.out.trans (hb15.mono B4.out.size))
          clear hb15
          rw [show ((ents (toks 0 ((r, [(List.replicate nn (0 : UInt8), List.replicate mm (0 : UInt8))]) : Tr 0))).length : Int) = 1 from rfl]
          go_wp2_with fail
          go_ret
          exact ⟨rfl, BF.out⟩
    · refine effect_list rfl rfl (fun K hK => ?_)
      refine wpList_step (fun K2 hK2 => ?_)
      go_simp
      rw [HMV.out]
      go_simp
      refine hK2 _ _ ?_
      clear hK2 K2
      simp only [wpList]
      have hal16 : Below wz.heap.size wz (wz.alloc (.cells (bv (List.replicate mm 0)).toArray 5)) := (Below.refl _ _).alloc (Nat.le_refl _) _
      obtain ⟨b16, hb16⟩ : ∃ b, wz.heap.size = b := ⟨_, rfl⟩
      obtain ⟨w16, hw16⟩ : ∃ x, wz.alloc (.cells (bv (List.replicate mm 0)).toArray 5) = x := ⟨_, rfl⟩
      have HN16 : Hid (Bs w16 (.slice (some ⟨b16, 0, none⟩) mm mm) (List.replicate mm 0)) := hid (Bs.blk (T := TU) (by rw [← hw16, ← hb16]; exact heap_alloc_new _ _) (by simp) (by simp only [maxLen]; omega))
      rw [hw16] at hal16 ⊢
      rw [hb16]
      clear hw16 hb16
      have HP16 := hid (HPz.out.new' hal16)
      have HG16 := hid (HGz.out.trans (hal16.mono HGz.out.size))
      clear hal16
      refine hK _ _ (fun _ => trivial) ?_
      clear hK K
      refine ⟨?_, ?_⟩
      · refine effect_list rfl rfl (fun K hK => ?_)
        refine wpList_step (fun K2 hK2 => ?_)
        go_simp
        rw [HMK.out]
        go_simp
        refine hK2 _ _ ?_
        clear hK2 K2
        simp only [wpList]
        have hal17 : Below w16.heap.size w16 (w16.alloc (.cells (bv (List.replicate nn 0)).toArray 5)) := (Below.refl _ _).alloc (Nat.le_refl _) _
        obtain ⟨b17, hb17⟩ : ∃ b, w16.heap.size = b := ⟨_, rfl⟩
        obtain ⟨w17, hw17⟩ : ∃ x, w16.alloc (.cells (bv (List.replicate nn 0)).toArray 5) = x := ⟨_, rfl⟩
        have HN17 : Hid (Bs w17 (.slice (some ⟨b17, 0, none⟩) nn nn) (List.replicate nn 0)) := hid (Bs.blk (T := TU) (by rw [← hw17, ← hb17]; exact heap_alloc_new _ _) (by simp) (by simp only [maxLen]; omega))
        rw [hw17] at hal17 ⊢
        rw [hb17]
        clear hw17 hb17
        have HB17 := hid (HN16.out.new hal17)
        have HP17 := hid (HP16.out.new' hal17)
        have HG17 := hid (HG16.out.trans (hal17.mono HG16.out.size))
        clear hal17
        refine hK _ _ (fun _ => trivial) ?_
        clear hK K
        refine ⟨?_, ?_⟩
        · refine effect_list rfl rfl (fun K hK => ?_)
          refine wpList_bytes_str rfl 30 9 _ rfl 5 Try.underlying30 Try.underlying5 Try.underlying9 (.slice (some ⟨b17, 0, none⟩) nn nn) (List.replicate nn 0) rfl HN17.out ?_
          simp only [wpList]
          refine hK _ _ (fun _ => trivial) ?_
          clear hK K
          rw [show (⟨(List.replicate nn (0 : UInt8)).toArray⟩ : ByteArray) = B (List.replicate nn 0) from rfl]
          refine wpPlan3_list rfl rfl rfl (fun K hK => ?_)
          refine wpList_bytes_str rfl 30 9 _ rfl 5 Try.underlying30 Try.underlying5 Try.underlying9 (.slice (some ⟨b16, 0, none⟩) mm mm) (List.replicate mm 0) rfl HB17.out ?_
          simp only [wpList]
          refine hK _ _ (fun _ => trivial) ?_
          clear hK K
          rw [show (⟨(List.replicate mm (0 : UInt8)).toArray⟩ : ByteArray) = B (List.replicate mm 0) from rfl]
          refine wpPlan3_list rfl rfl rfl (fun K hK => ?_)
          refine wpList_step (fun K2 hK2 => ?_)
          go_simp
          refine (set_end w17 p d F3 _ _ T2 N3 _ _ 1190 (List.replicate nn 0) (List.replicate mm 0) r [] [] (by simp; omega) (by simp; omega) (updN_same ..) (by rw [HRT.out]; decide) (by rw [HRT.out]; decide) List.Pairwise.nil rfl HP17.out (by omega) HWH.out.sto (long_ok (by simp; omega) (by simp; omega)) (long_size (by simp; omega))).mono ?_
          rintro e20 w20 ⟨T4, rfl, ⟨F4, N4, hv4, hN4, hc4, hF4⟩, hs4, _⟩
          have V4 := hid hv4
          have HS4 := hid hs4
          have B4 := hid (HG17.out.trans (hc4.below (fun k hk => HF3.out k hk) HG17.out.size))
          clear hv4 hN4 hc4 hF4 hs4
          go_simp
          refine hK2 _ _ ?_
          clear hK2 K2
          simp only [wpList]
          refine hK _ _ (fun _ => trivial) ?_
          clear hK K
          (apply wpPlan3_val; (case ho => rfl); (case hst => rfl); (case hw => rfl); (case hv => intro w' hS; go_simp; first | done | rfl); intro K hK; go_simp; refine hK _ ?_; clear hK K)
          (apply wpPlan3_val; (case ho => rfl); (case hst => rfl); (case hw => rfl); (case hv => intro w' hS; go_simp; first | done | rfl); intro K hK; go_simp; refine hK _ ?_; clear hK K)
          (apply wpPlan3_val; (case ho => rfl); (case hst => rfl); (case hw => rfl); (case hv => intro w' hS; go_simp; first | done | rfl); intro K hK; go_simp; refine hK _ ?_; clear hK K)
          (apply wpPlan3_val; (case ho => rfl); (case hst => rfl); (case hw => rfl); (case hv => intro w' hS; go_simp; first | done | rfl); intro K hK; go_simp; refine hK _ ?_; clear hK K)
          (apply wpPlan3_val; (case ho => rfl); (case hst => rfl); (case hw => rfl); (case hv => intro w' hS; go_simp; first | done | rfl); intro K hK; go_simp; refine hK _ ?_; clear hK K)
          refine wpPlan3_nil ?_
          simp only [Qn]
          have h1 : (nn : Int) ≤ 140 := by omega
          have h2 : (nn : Int) + (mm : Int) ≤ 150 := by omega
          go_wp2_with fail
          refine (count_any' w20 p d F4 1600 _ _ T4 true N4 _ 0 ((r, [(List.replicate nn 0, List.replicate mm 0)]) : Tr 0) HS4.out.vw V4.out (upd_on _ r _ _)).mono ?_
          rintro e21 w21 ⟨rfl, hb21⟩
          have BF := hid (B4.out.trans (hb21.mono B4.out.size))
          clear hb21
          rw [show ((ents (toks 0 ((r, [(List.replicate nn (0 : UInt8), List.replicate mm (0 : UInt8))]) : Tr 0))).length : Int) = 1 from rfl]
          go_wp2_with fail
          go_ret
          exact ⟨rfl, BF.out⟩
        · refine effect_list rfl rfl (fun K hK => ?_)
          refine wpList_bytes_str rfl 30 9 _ rfl 5 Try.underlying30 Try.underlying5 Try.underlying9 (.slice (some ⟨b16, 0, none⟩) mm mm) (List.replicate mm 0) rfl HB17.out ?_
          simp only [wpList]
          refine hK _ _ (fun _ => trivial) ?_
          clear hK K
          rw [show (⟨(List.replicate mm (0 : UInt8)).toArray⟩ : ByteArray) = B (List.replicate mm 0) from rfl]
          refine wpPlan3_list rfl rfl rfl (fun K hK => ?_)
          refine wpList_bytes_str rfl 30 9 _ rfl 5 Try.underlying30 Try.underlying5 Try.underlying9 (.slice (some ⟨b17, 0, none⟩) nn nn) (List.replicate nn 0) rfl HN17.out ?_
          simp only [wpList]
          refine hK _ _ (fun _ => trivial) ?_
          clear hK K
          rw [show (⟨(List.replicate nn (0 : UInt8)).toArray⟩ : ByteArray) = B (List.replicate nn 0) from rfl]
          refine wpPlan3_list rfl rfl rfl (fun K hK => ?_)
          refine wpList_step (fun K2 hK2 => ?_)
          go_simp
          refine (set_end w17 p d F3 _ _ T2 N3 _ _ 1190 (List.replicate nn 0) (List.replicate mm 0) r [] [] (by simp; omega) (by simp; omega) (updN_same ..) (by rw [HRT.out]; decide) (by rw [HRT.out]; decide) List.Pairwise.nil rfl HP17.out (by omega) HWH.out.sto (long_ok (by simp; omega) (by simp; omega)) (long_size (by simp; omega))).mono ?_
          rintro e24 w24 ⟨T4, rfl, ⟨F4, N4, hv4, hN4, hc4, hF4⟩, hs4, _⟩
          have V4 := hid hv4
          have HS4 := hid hs4
          have B4 := hid (HG17.out.trans (hc4.below (fun k hk => HF3.out k hk) HG17.out.size))
          clear hv4 hN4 hc4 hF4 hs4
          go_simp
          refine hK2 _ _ ?_
          clear hK2 K2
          simp only [wpList]
          refine hK _ _ (fun _ => trivial) ?_
          clear hK K
          (apply wpPlan3_val; (case ho => rfl); (case hst => rfl); (case hw => rfl); (case hv => intro w' hS; go_simp; first | done | rfl); intro K hK; go_simp; refine hK _ ?_; clear hK K)
          (apply wpPlan3_val; (case ho => rfl); (case hst => rfl); (case hw => rfl); (case hv => intro w' hS; go_simp; first | done | rfl); intro K hK; go_simp; refine hK _ ?_; clear hK K)
          (apply wpPlan3_val; (case ho => rfl); (case hst => rfl); (case hw => rfl); (case hv => intro w' hS; go_simp; first | done | rfl); intro K hK; go_simp; refine hK _ ?_; clear hK K)
          (apply wpPlan3_val; (case ho => rfl); (case hst => rfl); (case hw => rfl); (case hv => intro w' hS; go_simp; first | done | rfl); intro K hK; go_simp; refine hK _ ?_; clear hK K)
          (apply wpPlan3_val; (case ho => rfl); (case hst => rfl); (case hw => rfl); (case hv => intro w' hS; go_simp; first | done | rfl); intro K hK; go_simp; refine hK _ ?_; clear hK K)
          refine wpPlan3_nil ?_
          simp only [Qn]
          have h1 : (nn : Int) ≤ 140 := by omega
          have h2 : (nn : Int) + (mm : Int) ≤ 150 := by omega
          go_wp2_with fail
          refine (count_any' w24 p d F4 1600 _ _ T4 true N4 _ 0 ((r, [(List.replicate nn 0, List.replicate mm 0)]) : Tr 0) HS4.out.vw V4.out (upd_on _ r _ _)).mono ?_
          rintro e25 w25 ⟨rfl, hb25⟩
          have BF := hid (B4.out.trans (hb25.mono B4.out.size))
          clear hb25
          rw [show ((ents (toks 0 ((r, [(List.replicate nn (0 : UInt8), List.replicate mm (0 : UInt8))]) : Tr 0))).length : Int) = 1 from rfl]
          go_wp2_with fail
          go_ret
          exact ⟨rfl, BF.out⟩
      · refine effect_list rfl rfl (fun K hK => ?_)
        refine wpList_bytes_str rfl 30 9 _ rfl 5 Try.underlying30 Try.underlying5 Try.underlying9 (.slice (some ⟨b16, 0, none⟩) mm mm) (List.replicate mm 0) rfl HN16.out ?_
        simp only [wpList]
        refine hK _ _ (fun _ => trivial) ?_
        clear hK K
        rw [show (⟨(List.replicate mm (0 : UInt8)).toArray⟩ : ByteArray) = B (List.replicate mm 0) from rfl]
        refine wpPlan3_list rfl rfl rfl (fun K hK => ?_)
        refine wpList_step (fun K2 hK2 => ?_)
        go_simp
        rw [HMK.out]
        go_simp
        refine hK2 _ _ ?_
        clear hK2 K2
        simp only [wpList]
        have hal27 : Below w16.heap.size w16 (w16.alloc (.cells (bv (List.replicate nn 0)).toArray 5)) := (Below.refl _ _).alloc (Nat.le_refl _) _
        obtain ⟨b27, hb27⟩ : ∃ b, w16.heap.size = b := ⟨_, rfl⟩
        obtain ⟨w27, hw27⟩ : ∃ x, w16.alloc (.cells (bv (List.replicate nn 0)).toArray 5) = x := ⟨_, rfl⟩
        have HN27 : Hid (Bs w27 (.slice (some ⟨b27, 0, none⟩) nn nn) (List.replicate nn 0)) := hid (Bs.blk (T := TU) (by rw [← hw27, ← hb27]; exact heap_alloc_new _ _) (by simp) (by simp only [maxLen]; omega))
        rw [hw27] at hal27 ⊢
        rw [hb27]
        clear hw27 hb27
        have HB27 := hid (HN16.out.new hal27)
        have HP27 := hid (HP16.out.new' hal27)
        have HG27 := hid (HG16.out.trans (hal27.mono HG16.out.size))
        clear hal27
        refine hK _ _ (fun _ => trivial) ?_
        clear hK K
        refine wpPlan3_list rfl rfl rfl (fun K hK => ?_)
        refine wpList_bytes_str rfl 30 9 _ rfl 5 Try.underlying30 Try.underlying5 Try.underlying9 (.slice (some ⟨b27, 0, none⟩) nn nn) (List.replicate nn 0) rfl HN27.out ?_
        simp only [wpList]
        refine hK _ _ (fun _ => trivial) ?_
        clear hK K
        rw [show (⟨(List.replicate nn (0 : UInt8)).toArray⟩ : ByteArray) = B (List.replicate nn 0) from rfl]
        refine wpPlan3_list rfl rfl rfl (fun K hK => ?_)
        refine wpList_step (fun K2 hK2 => ?_)
        go_simp
        refine (set_end w27 p d F3 _ _ T2 N3 _ _ 1190 (List.replicate nn 0) (List.replicate mm 0) r [] [] (by simp; omega) (by simp; omega) (updN_same ..) (by rw [HRT.out]; decide) (by rw [HRT.out]; decide) List.Pairwise.nil rfl HP27.out (by omega) HWH.out.sto (long_ok (by simp; omega) (by simp; omega)) (long_size (by simp; omega))).mono ?_
        rintro e29 w29 ⟨T4, rfl, ⟨F4, N4, hv4, hN4, hc4, hF4⟩, hs4, _⟩
        have V4 := hid hv4
        have HS4 := hid hs4
        have B4 := hid (HG27.out.trans (hc4.below (fun k hk => HF3.out k hk) HG27.out.size))
        clear hv4 hN4 hc4 hF4 hs4
        go_simp
        refine hK2 _ _ ?_
        clear hK2 K2
        simp only [wpList]
        refine hK _ _ (fun _ => trivial) ?_
        clear hK K
        (apply wpPlan3_val; (case ho => rfl); (case hst => rfl); (case hw => rfl); (case hv => intro w' hS; go_simp; first | done | rfl); intro K hK; go_simp; refine hK _ ?_; clear hK K)
        (apply wpPlan3_val; (case ho => rfl); (case hst => rfl); (case hw => rfl); (case hv => intro w' hS; go_simp; first | done | rfl); intro K hK; go_simp; refine hK _ ?_; clear hK K)
        (apply wpPlan3_val; (case ho => rfl); (case hst => rfl); (case hw => rfl); (case hv => intro w' hS; go_simp; first | done | rfl); intro K hK; go_simp; refine hK _ ?_; clear hK K)
        (apply wpPlan3_val; (case ho => rfl); (case hst => rfl); (case hw => rfl); (case hv => intro w' hS; go_simp; first | done | rfl); intro K hK; go_simp; refine hK _ ?_; clear hK K)
        (apply wpPlan3_val; (case ho => rfl); (case hst => rfl); (case hw => rfl); (case hv => intro w' hS; go_simp; first | done | rfl); intro K hK; go_simp; refine hK _ ?_; clear hK K)
        refine wpPlan3_nil ?_
        simp only [Qn]
        have h1 : (nn : Int) ≤ 140 := by omega
        have h2 : (nn : Int) + (mm : Int) ≤ 150 := by omega
        go_wp2_with fail
        refine (count_any' w29 p d F4 1600 _ _ T4 true N4 _ 0 ((r, [(List.replicate nn 0, List.replicate mm 0)]) : Tr 0) HS4.out.vw V4.out (upd_on _ r _ _)).mono ?_
        rintro e30 w30 ⟨rfl, hb30⟩
        have BF := hid (B4.out.trans (hb30.mono B4.out.size))
        clear hb30
        rw [show ((ents (toks 0 ((r, [(List.replicate nn (0 : UInt8), List.replicate mm (0 : UInt8))]) : Tr 0))).length : Int) = 1 from rfl]
        go_wp2_with fail
        go_ret
        exact ⟨rfl, BF.out⟩
  · refine wp_region_plan3 (fun _ => True) (fun j => !([3, 4, 6, 7, 8].contains j)) (fun _ => false) (fun _ => false)
      (.cons 0 (.cons 1 (.cons 2 (.cons 5 (.fork 3 6 (.fork 4 6 (.cons 6 (.cons 7 (.cons 8 (.cons 9 (.cons 10 (.cons 11 (.cons 12 (.cons 13 .nil)))))))) (.fork 4 7 (.cons 7 (.cons 8 (.cons 9 (.cons 10 (.cons 11 (.cons 12 (.cons 13 .nil))))))) (.cons 4 (.cons 8 (.cons 9 (.cons 10 (.cons 11 (.cons 12 (.cons 13 .nil))))))))) (.fork 3 7 (.fork 4 7 (.cons 7 (.cons 8 (.cons 9 (.cons 10 (.cons 11 (.cons 12 (.cons 13 .nil))))))) (.cons 4 (.cons 8 (.cons 9 (.cons 10 (.cons 11 (.cons 12 (.cons 13 .nil)))))))) (.cons 3 (.cons 4 (.cons 8 (.cons 9 (.cons 10 (.cons 11 (.cons 12 (.cons 13 .nil)))))))))))))) (by kernel_rfl) (by kernel_rfl) rfl (by kernel_rfl) (by kernel_rfl) trivial ?_
    iterate 4 (apply wpPlan3_val; (case ho => rfl); (case hst => rfl); (case hw => rfl); (case hv => intro w' hS; go_simp; first | done | rfl); intro K hK; go_simp; refine hK _ ?_; clear hK K)
    obtain ⟨wz, hwz⟩ : ∃ x, wc.drew = x := ⟨_, rfl⟩
    have HPz := hid (V3.out.new' (show Below wc.heap.size wc wz by rw [← hwz]; exact below_drewN (Below.refl _ _) 1))
    have HGz := hid (show Below w.heap.size w wz by rw [← hwz]; exact below_drewN B3.out 1)
    rw [hwz]
    clear hwz
    refine ⟨?_, ?_⟩
    · refine effect_list rfl rfl (fun K hK => ?_)
      refine wpList_step (fun K2 hK2 => ?_)
      go_simp
      rw [HMK.out]
      go_simp
      refine hK2 _ _ ?_
      clear hK2 K2
      simp only [wpList]
      have hal31 : Below wz.heap.size wz (wz.alloc (.cells (bv (List.replicate nn 0)).toArray 5)) := (Below.refl _ _).alloc (Nat.le_refl _) _
      obtain ⟨b31, hb31⟩ : ∃ b, wz.heap.size = b := ⟨_, rfl⟩
      obtain ⟨w31, hw31⟩ : ∃ x, wz.alloc (.cells (bv (List.replicate nn 0)).toArray 5) = x := ⟨_, rfl⟩
      have HN31 : Hid (Bs w31 (.slice (some ⟨b31, 0, none⟩) nn nn) (List.replicate nn 0)) := hid (Bs.blk (T := TU) (by rw [← hw31, ← hb31]; exact heap_alloc_new _ _) (by simp) (by simp only [maxLen]; omega))
      rw [hw31] at hal31 ⊢
      rw [hb31]
      clear hw31 hb31
      have HP31 := hid (HPz.out.new' hal31)
      have HG31 := hid (HGz.out.trans (hal31.mono HGz.out.size))
      clear hal31
      refine hK _ _ (fun _ => trivial) ?_
      clear hK K
      refine ⟨?_, ?_⟩
      · refine effect_list rfl rfl (fun K hK => ?_)
        refine wpList_bytes_str rfl 30 9 _ rfl 5 Try.underlying30 Try.underlying5 Try.underlying9 (.slice (some ⟨b31, 0, none⟩) nn nn) (List.replicate nn 0) rfl HN31.out ?_
        simp only [wpList]
        refine hK _ _ (fun _ => trivial) ?_
        clear hK K
        rw [show (⟨(List.replicate nn (0 : UInt8)).toArray⟩ : ByteArray) = B (List.replicate nn 0) from rfl]
        refine wpPlan3_list rfl rfl rfl (fun K hK => ?_)
        refine wpList_step (fun K2 hK2 => ?_)
        go_simp
        rw [HMV.out]
        go_simp
        refine hK2 _ _ ?_
        clear hK2 K2
        simp only [wpList]
        have hal33 : Below w31.heap.size w31 (w31.alloc (.cells (bv (List.replicate mm 0)).toArray 5)) := (Below.refl _ _).alloc (Nat.le_refl _) _
        obtain ⟨b33, hb33⟩ : ∃ b, w31.heap.size = b := ⟨_, rfl⟩
        obtain ⟨w33, hw33⟩ : ∃ x, w31.alloc (.cells (bv (List.replicate mm 0)).toArray 5) = x := ⟨_, rfl⟩
        have HN33 : Hid (Bs w33 (.slice (some ⟨b33, 0, none⟩) mm mm) (List.replicate mm 0)) := hid (Bs.blk (T := TU) (by rw [← hw33, ← hb33]; exact heap_alloc_new _ _) (by simp) (by simp only [maxLen]; omega))
        rw [hw33] at hal33 ⊢
        rw [hb33]
        clear hw33 hb33
        have HA33 := hid (HN31.out.new hal33)
        have HP33 := hid (HP31.out.new' hal33)
        have HG33 := hid (HG31.out.trans (hal33.mono HG31.out.size))
        clear hal33
        refine hK _ _ (fun _ => trivial) ?_
        clear hK K
        refine wpPlan3_list rfl rfl rfl (fun K hK => ?_)
        refine wpList_bytes_str rfl 30 9 _ rfl 5 Try.underlying30 Try.underlying5 Try.underlying9 (.slice (some ⟨b33, 0, none⟩) mm mm) (List.replicate mm 0) rfl HN33.out ?_
        simp only [wpList]
        refine hK _ _ (fun _ => trivial) ?_
        clear hK K
        rw [show (⟨(List.replicate mm (0 : UInt8)).toArray⟩ : ByteArray) = B (List.replicate mm 0) from rfl]
        refine wpPlan3_list rfl rfl rfl (fun K hK => ?_)
        refine wpList_step (fun K2 hK2 => ?_)
        go_simp
        refine (set_long w33 p r (List.replicate nn 0) (List.replicate mm 0) (by simpa using hfine) (by simp; omega) (by simp; omega)).mono ?_
        rintro e35 w35 ⟨rfl, hww⟩
        subst hww
        go_simp
        refine hK2 _ _ ?_
        clear hK2 K2
        simp only [wpList]
        refine hK _ _ (fun _ => trivial) ?_
        clear hK K
        (apply wpPlan3_val; (case ho => rfl); (case hst => rfl); (case hw => rfl); (case hv => intro w' hS; go_simp; first | done | rfl); intro K hK; go_simp; refine hK _ ?_; clear hK K)
        (apply wpPlan3_val; (case ho => rfl); (case hst => rfl); (case hw => rfl); (case hv => intro w' hS; go_simp; first | done | rfl); intro K hK; go_simp; refine hK _ ?_; clear hK K)
        (apply wpPlan3_val; (case ho => rfl); (case hst => rfl); (case hw => rfl); (case hv => intro w' hS; go_simp; first | done | rfl); intro K hK; go_simp; refine hK _ ?_; clear hK K)
        (apply wpPlan3_val; (case ho => rfl); (case hst => rfl); (case hw => rfl); (case hv => intro w' hS; go_simp; first | done | rfl); intro K hK; go_simp; refine hK _ ?_; clear hK K)
        (apply wpPlan3_val; (case ho => rfl); (case hst => rfl); (case hw => rfl); (case hv => intro w' hS; go_simp; first | done | rfl); intro K hK; go_simp; refine hK _ ?_; clear hK K)
        refine wpPlan3_nil ?_
        simp only [Qn]
        by_cases h1 : nn ≤ 140
        · have h2 : (nn : Int) ≤ 140 := by omega
          have h3 : ¬ (nn : Int) + (mm : Int) ≤ 150 := by omega
          go_wp2_with fail
          refine (count_any' w35 p d F3 1600 _ _ T2 true N3 _ 0 (tr0 r) HWH.out.sto.vw HP33.out HWH.out.ok).mono ?_
          rintro e36 w36 ⟨rfl, hb36⟩
          have BF := hid (HG33.out.trans (hb36.mono HG33.out.size))
          clear hb36
          rw [show ((ents (toks 0 (tr0 r))).length : Int) = 0 from rfl]
          go_wp2_with fail
          go_ret
          exact ⟨rfl, BF.out⟩
        · have h2 : ¬ (nn : Int) ≤ 140 := by omega
          go_wp2_with fail
          refine (count_any' w35 p d F3 1600 _ _ T2 true N3 _ 0 (tr0 r) HWH.out.sto.vw HP33.out HWH.out.ok).mono ?_
          rintro e36 w36 ⟨rfl, hb36⟩
          have BF := hid (HG33.out.trans (hb36.mono HG33.out.size))
          clear hb36
          rw [show ((ents (toks 0 (tr0 r))).length : Int) = 0 from rfl]
          go_wp2_with fail
          go_ret
          exact ⟨rfl, BF.out⟩
      · refine effect_list rfl rfl (fun K hK => ?_)
        refine wpList_step (fun K2 hK2 => ?_)
        go_simp
        rw [HMV.out]
        go_simp
        refine hK2 _ _ ?_
        clear hK2 K2
        simp only [wpList]
        have hal37 : Below w31.heap.size w31 (w31.alloc (.cells (bv (List.replicate mm 0)).toArray 5)) := (Below.refl _ _).alloc (Nat.le_refl _) _
        obtain ⟨b37, hb37⟩ : ∃ b, w31.heap.size = b := ⟨_, rfl⟩
        obtain ⟨w37, hw37⟩ : ∃ x, w31.alloc (.cells (bv (List.replicate mm 0)).toArray 5) = x := ⟨_, rfl⟩
        have HN37 : Hid (Bs w37 (.slice (some ⟨b37, 0, none⟩) mm mm) (List.replicate mm 0)) := hid (Bs.blk (T := TU) (by rw [← hw37, ← hb37]; exact heap_alloc_new _ _) (by simp) (by simp only [maxLen]; omega))
        rw [hw37] at hal37 ⊢
        rw [hb37]
        clear hw37 hb37
        have HA37 := hid (HN31.out.new hal37)
        have HP37 := hid (HP31.out.new' hal37)
        have HG37 := hid (HG31.out.trans (hal37.mono HG31.out.size))
        clear hal37
        refine hK _ _ (fun _ => trivial) ?_
        clear hK K
        refine ⟨?_, ?_⟩
        · refine effect_list rfl rfl (fun K hK => ?_)
          refine wpList_bytes_str rfl 30 9 _ rfl 5 Try.underlying30 Try.underlying5 Try.underlying9 (.slice (some ⟨b31, 0, none⟩) nn nn) (List.replicate nn 0) rfl HA37.out ?_
          simp only [wpList]
          refine hK _ _ (fun _ => trivial) ?_
          clear hK K
          rw [show (⟨(List.replicate nn (0 : UInt8)).toArray⟩ : ByteArray) = B (List.replicate nn 0) from rfl]
          refine wpPlan3_list rfl rfl rfl (fun K hK => ?_)
          refine wpList_bytes_str rfl 30 9 _ rfl 5 Try.underlying30 Try.underlying5 Try.underlying9 (.slice (some ⟨b37, 0, none⟩) mm mm) (List.replicate mm 0) rfl HN37.out ?_
          simp only [wpList]
          refine hK _ _ (fun _ => trivial) ?_
          clear hK K
          rw [show (⟨(List.replicate mm (0 : UInt8)).toArray⟩ : ByteArray) = B (List.replicate mm 0) from rfl]
          refine wpPlan3_list rfl rfl rfl (fun K hK => ?_)
          refine wpList_step (fun K2 hK2 => ?_)
          go_simp
          refine (set_long w37 p r (List.replicate nn 0) (List.replicate mm 0) (by simpa using hfine) (by simp; omega) (by simp; omega)).mono ?_
          rintro e40 w40 ⟨rfl, hww⟩
          subst hww
          go_simp
          refine hK2 _ _ ?_
          clear hK2 K2
          simp only [wpList]
          refine hK _ _ (fun _ => trivial) ?_
          clear hK K
          (apply wpPlan3_val; (case ho => rfl); (case hst => rfl); (case hw => rfl); (case hv => intro w' hS; go_simp; first | done | rfl); intro K hK; go_simp; refine hK _ ?_; clear hK K)
          (apply wpPlan3_val; (case ho => rfl); (case hst => rfl); (case hw => rfl); (case hv => intro w' hS; go_simp; first | done | rfl); intro K hK; go_simp; refine hK _ ?_; clear hK K)
          (apply wpPlan3_val; (case ho => rfl); (case hst => rfl); (case hw => rfl); (case hv => intro w' hS; go_simp; first | done | rfl); intro K hK; go_simp; refine hK _ ?_; clear hK K)
          (apply wpPlan3_val; (case ho => rfl); (case hst => rfl); (case hw => rfl); (case hv => intro w' hS; go_simp; first | done | rfl); intro K hK; go_simp; refine hK _ ?_; clear hK K)
          (apply wpPlan3_val; (case ho => rfl); (case hst => rfl); (case hw => rfl); (case hv => intro w' hS; go_simp; first | done | rfl); intro K hK; go_simp; refine hK _ ?_; clear hK K)
          refine wpPlan3_nil ?_
          simp only [Qn]
          by_cases h1 : nn ≤ 140
          · have h2 : (nn : Int) ≤ 140 := by omega
            have h3 : ¬ (nn : Int) + (mm : Int) ≤ 150 := by omega
            go_wp2_with fail
            refine (count_any' w40 p d F3 1600 _ _ T2 true N3 _ 0 (tr0 r) HWH.out.sto.vw HP37.out HWH.out.ok).mono ?_
            rintro e41 w41 ⟨rfl, hb41⟩
            have BF := hid (HG37.out.trans (hb41.mono HG37.out.size))
            clear hb41
            rw [show ((ents (toks 0 (tr0 r))).length : Int) = 0 from rfl]
            go_wp2_with fail
            go_ret
            exact ⟨rfl, BF.out⟩
          · have h2 : ¬ (nn : Int) ≤ 140 := by omega
            go_wp2_with fail
            refine (count_any' w40 p d F3 1600 _ _ T2 true N3 _ 0 (tr0 r) HWH.out.sto.vw HP37.out HWH.out.ok).mono ?_
            rintro e41 w41 ⟨rfl, hb41⟩
            have BF := hid (HG37.out.trans (hb41.mono HG37.out.size))
            clear hb41
            rw [show ((ents (toks 0 (tr0 r))).length : Int) = 0 from rfl]
            go_wp2_with fail
            go_ret
            exact ⟨rfl, BF.out⟩
        · refine effect_list rfl rfl (fun K hK => ?_)
          refine wpList_bytes_str rfl 30 9 _ rfl 5 Try.underlying30 Try.underlying5 Try.underlying9 (.slice (some ⟨b37, 0, none⟩) mm mm) (List.replicate mm 0) rfl HN37.out ?_
          simp only [wpList]
          refine hK _ _ (fun _ => trivial) ?_
          clear hK K
          rw [show (⟨(List.replicate mm (0 : UInt8)).toArray⟩ : ByteArray) = B (List.replicate mm 0) from rfl]
          refine wpPlan3_list rfl rfl rfl (fun K hK => ?_)
          refine wpList_bytes_str rfl 30 9 _ rfl 5 Try.underlying30 Try.underlying5 Try.underlying9 (.slice (some ⟨b31, 0, none⟩) nn nn) (List.replicate nn 0) rfl HA37.out ?_
          simp only [wpList]
          refine hK _ _ (fun _ => trivial) ?_
          clear hK K
          rw [show (⟨(List.replicate nn (0 : UInt8)).toArray⟩ : ByteArray) = B (List.replicate nn 0) from rfl]
          refine wpPlan3_list rfl rfl rfl (fun K hK => ?_)
          refine wpList_step (fun K2 hK2 => ?_)
          go_simp
          refine (set_long w37 p r (List.replicate nn 0) (List.replicate mm 0) (by simpa using hfine) (by simp; omega) (by simp; omega)).mono ?_
          rintro e44 w44 ⟨rfl, hww⟩
          subst hww
          go_simp
          refine hK2 _ _ ?_
          clear hK2 K2
          simp only [wpList]
          refine hK _ _ (fun _ => trivial) ?_
          clear hK K
          (apply wpPlan3_val; (case ho => rfl); (case hst => rfl); (case hw => rfl); (case hv => intro w' hS; go_simp; first | done | rfl); intro K hK; go_simp; refine hK _ ?_; clear hK K)
          (apply wpPlan3_val; (case ho => rfl); (case hst => rfl); (case hw => rfl); (case hv => intro w' hS; go_simp; first | done | rfl); intro K hK; go_simp; refine hK _ ?_; clear hK K)
          (apply wpPlan3_val; (case ho => rfl); (case hst => rfl); (case hw => rfl); (case hv => intro w' hS; go_simp; first | done | rfl); intro K hK; go_simp; refine hK _ ?_; clear hK K)
          (apply wpPlan3_val; (case ho => rfl); (case hst => rfl); (case hw => rfl); (case hv => intro w' hS; go_simp; first | done | rfl); intro K hK; go_simp; refine hK _ ?_; clear hK K)
          (apply wpPlan3_val; (case ho => rfl); (case hst => rfl); (case hw => rfl); (case hv => intro w' hS; go_simp; first | done | rfl); intro K hK; go_simp; refine hK _ ?_; clear hK K)
          refine wpPlan3_nil ?_
          simp only [Qn]
          by_cases h1 : nn ≤ 140
          · have h2 : (nn : Int) ≤ 140 := by omega
            have h3 : ¬ (nn : Int) + (mm : Int) ≤ 150 := by omega
            go_wp2_with fail
            refine (count_any' w44 p d F3 1600 _ _ T2 true N3 _ 0 (tr0 r) HWH.out.sto.vw HP37.out HWH.out.ok).mono ?_
            rintro e45 w45 ⟨rfl, hb45⟩
            have BF := hid (HG37.out.trans (hb45.mono HG37.out.size))
            clear hb45
            rw [show ((ents (toks 0 (tr0 r))).length : Int) = 0 from rfl]
            go_wp2_with fail
            go_ret
            exact ⟨rfl, BF.out⟩
          · have h2 : ¬ (nn : Int) ≤ 140 := by omega
            go_wp2_with fail
            refine (count_any' w44 p d F3 1600 _ _ T2 true N3 _ 0 (tr0 r) HWH.out.sto.vw HP37.out HWH.out.ok).mono ?_
            rintro e45 w45 ⟨rfl, hb45⟩
            have BF := hid (HG37.out.trans (hb45.mono HG37.out.size))
            clear hb45
            rw [show ((ents (toks 0 (tr0 r))).length : Int) = 0 from rfl]
            go_wp2_with fail
            go_ret
            exact ⟨rfl, BF.out⟩
    · refine effect_list rfl rfl (fun K hK => ?_)
      refine wpList_step (fun K2 hK2 => ?_)
      go_simp
      rw [HMV.out]
      go_simp
      refine hK2 _ _ ?_
      clear hK2 K2
      simp only [wpList]
      have hal46 : Below wz.heap.size wz (wz.alloc (.cells (bv (List.replicate mm 0)).toArray 5)) := (Below.refl _ _).alloc (Nat.le_refl _) _
      obtain ⟨b46, hb46⟩ : ∃ b, wz.heap.size = b := ⟨_, rfl⟩
      obtain ⟨w46, hw46⟩ : ∃ x, wz.alloc (.cells (bv (List.replicate mm 0)).toArray 5) = x := ⟨_, rfl⟩
      have HN46 : Hid (Bs w46 (.slice (some ⟨b46, 0, none⟩) mm mm) (List.replicate mm 0)) := hid (Bs.blk (T := TU) (by rw [← hw46, ← hb46]; exact heap_alloc_new _ _) (by simp) (by simp only [maxLen]; omega))
      rw [hw46] at hal46 ⊢
      rw [hb46]
      clear hw46 hb46
      have HP46 := hid (HPz.out.new' hal46)
      have HG46 := hid (HGz.out.trans (hal46.mono HGz.out.size))
      clear hal46
      refine hK _ _ (fun _ => trivial) ?_
      clear hK K
      refine ⟨?_, ?_⟩
      · refine effect_list rfl rfl (fun K hK => ?_)
        refine wpList_step (fun K2 hK2 => ?_)
        go_simp
        rw [HMK.out]
        go_simp
        refine hK2 _ _ ?_
        clear hK2 K2
        simp only [wpList]
        have hal47 : Below w46.heap.size w46 (w46.alloc (.cells (bv (List.replicate nn 0)).toArray 5)) := (Below.refl _ _).alloc (Nat.le_refl _) _
        obtain ⟨b47, hb47⟩ : ∃ b, w46.heap.size = b := ⟨_, rfl⟩
        obtain ⟨w47, hw47⟩ : ∃ x, w46.alloc (.cells (bv (List.replicate nn 0)).toArray 5) = x := ⟨_, rfl⟩
        have HN47 : Hid (Bs w47 (.slice (some ⟨b47, 0, none⟩) nn nn) (List.replicate nn 0)) := hid (Bs.blk (T := TU) (by rw [← hw47, ← hb47]; exact heap_alloc_new _ _) (by simp) (by simp only [maxLen]; omega))
        rw [hw47] at hal47 ⊢
        rw [hb47]
        clear hw47 hb47
        have HB47 := hid (HN46.out.new hal47)
        have HP47 := hid (HP46.out.new' hal47)
        have HG47 := hid (HG46.out.trans (hal47.mono HG46.out.size))
        clear hal47
        refine hK _ _ (fun _ => trivial) ?_
        clear hK K
        refine ⟨?_, ?_⟩
        · refine effect_list rfl rfl (fun K hK => ?_)
          refine wpList_bytes_str rfl 30 9 _ rfl 5 Try.underlying30 Try.underlying5 Try.underlying9 (.slice (some ⟨b47, 0, none⟩) nn nn) (List.replicate nn 0) rfl HN47.out ?_
          simp only [wpList]
          refine hK _ _ (fun _ => trivial) ?_
          clear hK K
          rw [show (⟨(List.replicate nn (0 : UInt8)).toArray⟩ : ByteArray) = B (List.replicate nn 0) from rfl]
          refine wpPlan3_list rfl rfl rfl (fun K hK => ?_)
          refine wpList_bytes_str rfl 30 9 _ rfl 5 Try.underlying30 Try.underlying5 Try.underlying9 (.slice (some ⟨b46, 0, none⟩) mm mm) (List.replicate mm 0) rfl HB47.out ?_
          simp only [wpList]
          refine hK _ _ (fun _ => trivial) ?_
          clear hK K
          rw [show (⟨(List.replicate mm (0 : UInt8)).toArray⟩ : ByteArray) = B (List.replicate mm 0) from rfl]
          refine wpPlan3_list rfl rfl rfl (fun K hK => ?_)
          refine wpList_step (fun K2 hK2 => ?_)
          go_simp
          refine (set_long w47 p r (List.replicate nn 0) (List.replicate mm 0) (by simpa using hfine) (by simp; omega) (by simp; omega)).mono ?_
          rintro e50 w50 ⟨rfl, hww⟩
          subst hww
          go_simp
          refine hK2 _ _ ?_
          clear hK2 K2
          simp only [wpList]
          refine hK _ _ (fun _ => trivial) ?_
          clear hK K
          (apply wpPlan3_val; (case ho => rfl); (case hst => rfl); (case hw => rfl); (case hv => intro w' hS; go_simp; first | done | rfl); intro K hK; go_simp; refine hK _ ?_; clear hK K)
          (apply wpPlan3_val; (case ho => rfl); (case hst => rfl); (case hw => rfl); (case hv => intro w' hS; go_simp; first | done | rfl); intro K hK; go_simp; refine hK _ ?_; clear hK K)
          (apply wpPlan3_val; (case ho => rfl); (case hst => rfl); (case hw => rfl); (case hv => intro w' hS; go_simp; first | done | rfl); intro K hK; go_simp; refine hK _ ?_; clear hK K)
          (apply wpPlan3_val; (case ho => rfl); (case hst => rfl); (case hw => rfl); (case hv => intro w' hS; go_simp; first | done | rfl); intro K hK; go_simp; refine hK _ ?_; clear hK K)
          (apply wpPlan3_val; (case ho => rfl); (case hst => rfl); (case hw => rfl); (case hv => intro w' hS; go_simp; first | done | rfl); intro K hK; go_simp; refine hK _ ?_; clear hK K)
          refine wpPlan3_nil ?_
          simp only [Qn]
          by_cases h1 : nn ≤ 140
          · have h2 : (nn : Int) ≤ 140 := by omega
            have h3 : ¬ (nn : Int) + (mm : Int) ≤ 150 := by omega
            go_wp2_with fail
            refine (count_any' w50 p d F3 1600 _ _ T2 true N3 _ 0 (tr0 r) HWH.out.sto.vw HP47.out HWH.out.ok).mono ?_
            rintro e51 w51 ⟨rfl, hb51⟩
            have BF := hid (HG47.out.trans (hb51.mono HG47.out.size))
            clear hb51
            rw [show ((ents (toks 0 (tr0 r))).length : Int) = 0 from rfl]
            go_wp2_with fail
            go_ret
            exact ⟨rfl, BF.out⟩
          · have h2 : ¬ (nn : Int) ≤ 140 := by omega
            go_wp2_with fail
            refine (count_any' w50 p d F3 1600 _ _ T2 true N3 _ 0 (tr0 r) HWH.out.sto.vw HP47.out HWH.out.ok).mono ?_
            rintro e51 w51 ⟨rfl, hb51⟩
            have BF := hid (HG47.out.trans (hb51.mono HG47.out.size))
            clear hb51
            rw [show ((ents (toks 0 (tr0 r))).length : Int) = 0 from rfl]
            go_wp2_with fail
            go_ret
            exact ⟨rfl, BF.out⟩
        · refine effect_list rfl rfl (fun K hK => ?_)
          refine wpList_bytes_str rfl 30 9 _ rfl 5 Try.underlying30 Try.underlying5 Try.underlying9 (.slice (some ⟨b46, 0, none⟩) mm mm) (List.replicate mm 0) rfl HB47.out ?_
          simp only [wpList]
          refine hK _ _ (fun _ => trivial) ?_
          clear hK K
          rw [show (⟨(List.replicate mm (0 : UInt8)).toArray⟩ : ByteArray) = B (List.replicate mm 0) from rfl]
          refine wpPlan3_list rfl rfl rfl (fun K hK => ?_)
          refine wpList_bytes_str rfl 30 9 _ rfl 5 Try.underlying30 Try.underlying5 Try.underlying9 (.slice (some ⟨b47, 0, none⟩) nn nn) (List.replicate nn 0) rfl HN47.out ?_
          simp only [wpList]
          refine hK _ _ (fun _ => trivial) ?_
          clear hK K
          rw [show (⟨(List.replicate nn (0 : UInt8)).toArray⟩ : ByteArray) = B (List.replicate nn 0) from rfl]
          refine wpPlan3_list rfl rfl rfl (fun K hK => ?_)
          refine wpList_step (fun K2 hK2 => ?_)
          go_simp
          refine (set_long w47 p r (List.replicate nn 0) (List.replicate mm 0) (by simpa using hfine) (by simp; omega) (by simp; omega)).mono ?_
          rintro e54 w54 ⟨rfl, hww⟩
          subst hww
          go_simp
          refine hK2 _ _ ?_
          clear hK2 K2
          simp only [wpList]
          refine hK _ _ (fun _ => trivial) ?_
          clear hK K
          (apply wpPlan3_val; (case ho => rfl); (case hst => rfl); (case hw => rfl); (case hv => intro w' hS; go_simp; first | done | rfl); intro K hK; go_simp; refine hK _ ?_; clear hK K)
          (apply wpPlan3_val; (case ho => rfl); (case hst => rfl); (case hw => rfl); (case hv => intro w' hS; go_simp; first | done | rfl); intro K hK; go_simp; refine hK _ ?_; clear hK K)
          (apply wpPlan3_val; (case ho => rfl); (case hst => rfl); (case hw => rfl); (case hv => intro w' hS; go_simp; first | done | rfl); intro K hK; go_simp; refine hK _ ?_; clear hK K)
          (apply wpPlan3_val; (case ho => rfl); (case hst => rfl); (case hw => rfl); (case hv => intro w' hS; go_simp; first | done | rfl); intro K hK; go_simp; refine hK _ ?_; clear hK K)
          (apply wpPlan3_val; (case ho => rfl); (case hst => rfl); (case hw => rfl); (case hv => intro w' hS; go_simp; first | done | rfl); intro K hK; go_simp; refine hK _ ?_; clear hK K)
          refine wpPlan3_nil ?_
          simp only [Qn]
          by_cases h1 : nn ≤ 140
          · have h2 : (nn : Int) ≤ 140 := by omega
            have h3 : ¬ (nn : Int) + (mm : Int) ≤ 150 := by omega
            go_wp2_with fail
            refine (count_any' w54 p d F3 1600 _ _ T2 true N3 _ 0 (tr0 r) HWH.out.sto.vw HP47.out HWH.out.ok).mono ?_
            rintro e55 w55 ⟨rfl, hb55⟩
            have BF := hid (HG47.out.trans (hb55.mono HG47.out.size))
            clear hb55
            rw [show ((ents (toks 0 (tr0 r))).length : Int) = 0 from rfl]
            go_wp2_with fail
            go_ret
            exact ⟨rfl, BF.out⟩
          · have h2 : ¬ (nn : Int) ≤ 140 := by omega
            go_wp2_with fail
            refine (count_any' w54 p d F3 1600 _ _ T2 true N3 _ 0 (tr0 r) HWH.out.sto.vw HP47.out HWH.out.ok).mono ?_
            rintro e55 w55 ⟨rfl, hb55⟩
            have BF := hid (HG47.out.trans (hb55.mono HG47.out.size))
            clear hb55
            rw [show ((ents (toks 0 (tr0 r))).length : Int) = 0 from rfl]
            go_wp2_with fail
            go_ret
            exact ⟨rfl, BF.out⟩
      · refine effect_list rfl rfl (fun K hK => ?_)
        refine wpList_bytes_str rfl 30 9 _ rfl 5 Try.underlying30 Try.underlying5 Try.underlying9 (.slice (some ⟨b46, 0, none⟩) mm mm) (List.replicate mm 0) rfl HN46.out ?_
        simp only [wpList]
        refine hK _ _ (fun _ => trivial) ?_
        clear hK K
        rw [show (⟨(List.replicate mm (0 : UInt8)).toArray⟩ : ByteArray) = B (List.replicate mm 0) from rfl]
        refine wpPlan3_list rfl rfl rfl (fun K hK => ?_)
        refine wpList_step (fun K2 hK2 => ?_)
        go_simp
        rw [HMK.out]
        go_simp
        refine hK2 _ _ ?_
        clear hK2 K2
        simp only [wpList]
        have hal57 : Below w46.heap.size w46 (w46.alloc (.cells (bv (List.replicate nn 0)).toArray 5)) := (Below.refl _ _).alloc (Nat.le_refl _) _
        obtain ⟨b57, hb57⟩ : ∃ b, w46.heap.size = b := ⟨_, rfl⟩
        obtain ⟨w57, hw57⟩ : ∃ x, w46.alloc (.cells (bv (List.replicate nn 0)).toArray 5) = x := ⟨_, rfl⟩
        have HN57 : Hid (Bs w57 (.slice (some ⟨b57, 0, none⟩) nn nn) (List.replicate nn 0)) := hid (Bs.blk (T := TU) (by rw [← hw57, ← hb57]; exact heap_alloc_new _ _) (by simp) (by simp only [maxLen]; omega))
        rw [hw57] at hal57 ⊢
        rw [hb57]
        clear hw57 hb57
        have HB57 := hid (HN46.out.new hal57)
        have HP57 := hid (HP46.out.new' hal57)
        have HG57 := hid (HG46.out.trans (hal57.mono HG46.out.size))
        clear hal57
        refine hK _ _ (fun _ => trivial) ?_
        clear hK K
        refine wpPlan3_list rfl rfl rfl (fun K hK => ?_)
        refine wpList_bytes_str rfl 30 9 _ rfl 5 Try.underlying30 Try.underlying5 Try.underlying9 (.slice (some ⟨b57, 0, none⟩) nn nn) (List.replicate nn 0) rfl HN57.out ?_
        simp only [wpList]
        refine hK _ _ (fun _ => trivial) ?_
        clear hK K
        rw [show (⟨(List.replicate nn (0 : UInt8)).toArray⟩ : ByteArray) = B (List.replicate nn 0) from rfl]
        refine wpPlan3_list rfl rfl rfl (fun K hK => ?_)
        refine wpList_step (fun K2 hK2 => ?_)
        go_simp
        refine (set_long w57 p r (List.replicate nn 0) (List.replicate mm 0) (by simpa using hfine) (by simp; omega) (by simp; omega)).mono ?_
        rintro e59 w59 ⟨rfl, hww⟩
        subst hww
        go_simp
        refine hK2 _ _ ?_
        clear hK2 K2
        simp only [wpList]
        refine hK _ _ (fun _ => trivial) ?_
        clear hK K
        (apply wpPlan3_val; (case ho => rfl); (case hst => rfl); (case hw => rfl); (case hv => intro w' hS; go_simp; first | done | rfl); intro K hK; go_simp; refine hK _ ?_; clear hK K)
        (apply wpPlan3_val; (case ho => rfl); (case hst => rfl); (case hw => rfl); (case hv => intro w' hS; go_simp; first | done | rfl); intro K hK; go_simp; refine hK _ ?_; clear hK K)
        (apply wpPlan3_val; (case ho => rfl); (case hst => rfl); (case hw => rfl); (case hv => intro w' hS; go_simp; first | done | rfl); intro K hK; go_simp; refine hK _ ?_; clear hK K)
        (apply wpPlan3_val; (case ho => rfl); (case hst => rfl); (case hw => rfl); (case hv => intro w' hS; go_simp; first | done | rfl); intro K hK; go_simp; refine hK _ ?_; clear hK K)
        (apply wpPlan3_val; (case ho => rfl); (case hst => rfl); (case hw => rfl); (case hv => intro w' hS; go_simp; first | done | rfl); intro K hK; go_simp; refine hK _ ?_; clear hK K)
        refine wpPlan3_nil ?_
        simp only [Qn]
        by_cases h1 : nn ≤ 140
        · have h2 : (nn : Int) ≤ 140 := by omega
          have h3 : ¬ (nn : Int) + (mm : Int) ≤ 150 := by omega
          go_wp2_with fail
          refine (count_any' w59 p d F3 1600 _ _ T2 true N3 _ 0 (tr0 r) HWH.out.sto.vw HP57.out HWH.out.ok).mono ?_
          rintro e60 w60 ⟨rfl, hb60⟩
          have BF := hid (HG57.out.trans (hb60.mono HG57.out.size))
          clear hb60
          rw [show ((ents (toks 0 (tr0 r))).length : Int) = 0 from rfl]
          go_wp2_with fail
          go_ret
          exact ⟨rfl, BF.out⟩
        · have h2 : ¬ (nn : Int) ≤ 140 := by omega
          go_wp2_with fail
          refine (count_any' w59 p d F3 1600 _ _ T2 true N3 _ 0 (tr0 r) HWH.out.sto.vw HP57.out HWH.out.ok).mono ?_
          rintro e60 w60 ⟨rfl, hb60⟩
          have BF := hid (HG57.out.trans (hb60.mono HG57.out.size))
          clear hb60
          rw [show ((ents (toks 0 (tr0 r))).length : Int) = 0 from rfl]
          go_wp2_with fail
          go_ret
          exact ⟨rfl, BF.out⟩
end Go.Proofs.Ytdilkgcoecipjaa
