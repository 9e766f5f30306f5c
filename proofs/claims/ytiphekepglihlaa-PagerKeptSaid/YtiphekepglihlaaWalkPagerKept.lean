/- triadlaw4.PagerKept: the walk. -/
import Derived.Test.YtiphekepglihlaaKept
namespace Go.Proofs.Ytiphekepglihlaa
open Go.RowKit Go.Maps
set_option linter.unusedVariables false

set_option maxRecDepth 100000 in
set_option maxHeartbeats 4000000 in
theorem pagerKept_walk (a0 : Option Addr) (len0 cap0 : Nat) (z0 : List (List UInt8)) (a1 : Int) (w : World) (w0 : IsBodies w a0 len0 cap0 z0) (w1 : (Lit.int .i64 a1).wf = true) :
    Calls Try.prog 9 #[.slice a0 len0 cap0, .int .i64 a1] w fun e w' => e = .returned (.bool true) ∧ Below w.heap.size w w' := by
  have H0 := hid w0
  have HLEN := hid w0.1
  have hlm := w0.2.1
  have hm0 : 0 ≤ a1 % 1000 := Int.emod_nonneg _ (by omega)
  have hm1 : a1 % 1000 < 1000 := Int.emod_lt_of_pos _ (by omega)
  have WI := hid (fun w => within_any w a1 1000 (by omega) (by omega))
  clear w0 w1
  by_cases h15 : 15 < (len0 : Int)
  · go_enter Try.func9, Try.ntmps9
    go_wp2_with fail
    refine (known4_any _).mono ?_
    rintro e1 w1 ⟨rfl, hb⟩
    have B1 := hid hb
    clear hb
    go_wp2_with fail
    go_ret
    exact ⟨rfl, B1.out⟩
  · go_enter Try.func9, Try.ntmps9
    go_wp2_with fail
    refine (known4_any _).mono ?_
    rintro e1 w1 ⟨rfl, hb⟩
    have B1 := hid hb
    clear hb
    go_wp2_with fail
    refine (dNew_any w1 420).mono ?_
    rintro e2 w2 ⟨d, rfl, hd2, hb2, hd⟩
    rw [show clampN 420 = 420 from rfl] at hd2
    have D2 := hid hd2
    have B2 := hid (B1.out.trans (hb2.mono B1.out.size))
    clear hd2 hb2
    go_wp2_with fail
    refine (openW B2.out 420 (by omega) (by omega) d _ D2.out (fun k hk => Nat.le_trans B1.out.size hk.1)).mono ?_
    rintro e3 w3 ⟨p, rfl, hv⟩
    have V3 := hid hv
    clear hv D2
    go_wp2_with fail
    refine V3.out.begin.mono ?_
    rintro e4 w4 ⟨rfl, hv⟩
    have V4 := hid hv
    clear hv V3
    go_wp2_with fail
    go_loopw [8] (fun i wr => ∃ j : Nat, j ≤ len0 ∧ i = .int .i64 j ∧ PgW w wr p d 420 (dNew 420) as0 (keptA z0 j 0) true (1 + 2 * j) ∧ ∀ (m : Nat) (l : List UInt8), m < j → z0[m]? = some l → l.length ≤ 504) (fun i _ => len0 + 1 - (intOf i).toNat)
    case atStart => exact ⟨0, Nat.zero_le _, rfl, by rw [keptA_zero]; exact V4.out, fun m l h => by omega⟩
    case round =>
      obtain ⟨j, hj, rfl, hv, hs⟩ := hrel
      have V5 := hid hv
      have SM := hid hs
      clear hv hs V4
      by_cases hlt : j < len0
      · have hbw := V5.out.below
        obtain ⟨ab, ao, l, q, c, rfl, hl, hc0, hbs0⟩ := H0.out.2.2 j hlt
        have HC := hid (fun (wx : World) (hb : Below w.heap.size w wx) => (hb.cell (p := ⟨ab, ao + j, none⟩) (World.block_lt_of_cell? w _ hc0)).trans hc0)
        have BS := hid hbs0
        have HL := hid hl
        clear hc0 hbs0 hl hbw
        go_wp2_with fail
        refine (V5.out.new (by omega)).mono ?_
        rintro e5 w5 ⟨rfl, hv⟩
        have V6 := hid hv
        have hc1 := HC.out _ hv.below
        have BS1 := hid (BS.out.new hv.below)
        clear hv V5
        by_cases h5 : 504 < (l.length : Int)
        · generalize newO 420 true (keptA z0 j 0) = r9 at *
          obtain ⟨x9, y9, z9⟩ := r9
          go_wp2_with fail
          go_ret
          exact ⟨rfl, V6.out.below⟩
        · obtain ⟨k1, k2, k3⟩ := keptA_put (by omega) HL.out (by omega)
          rw [k1, k2]
          have K3 := hid k3
          have h5' : l.length ≤ 504 := by omega
          clear k1 k2 k3
          go_wp2_with fail
          refine (V6.out.put ((j : Int) + 1) _ l BS1.out (by omega) (by omega)).mono ?_
          rw [K3.out]
          rintro e6 w6 ⟨rfl, hv⟩
          have V7 := hid hv
          clear hv V6 K3
          go_wp2_with fail
          go_roundw
          case rel => exact ⟨j + 1, by omega, by go_num, by rw [show 1 + 2 * (j + 1) = 1 + 2 * j + 1 + 1 by omega]; exact V7.out, fun m l' hm hl' => by
            rcases Nat.lt_or_ge m j with h | h
            · exact SM.out m l' h hl'
            · obtain rfl : m = j := by omega
              rw [HL.out] at hl'
              injection hl' with hl'
              rw [← hl']
              exact h5'⟩
          case measure => simp [intOf]; omega
      · have hjl : len0 = j := by omega
        subst hjl
        go_wp2_with fail
        refine (WI.out _).mono ?_
        rintro e5 wx ⟨rfl, hw⟩
        subst hw
        generalize a1 % 1000 = r at *
        clear WI
        have RT := hid (keptA_root z0 len0 hm0)
        go_wp2_with fail
        refine (V5.out.setRoot r (by omega)).mono ?_
        rw [RT.out]
        rintro e6 w6 ⟨rfl, hv⟩
        have V6 := hid hv
        clear hv V5 RT
        go_wp2_with fail
        refine (V6.out.commit (by omega) (by show (0 : Int) + 3000 ≤ 1000000; decide) (by show (0 : Int) < 1; decide)).mono ?_
        rintro e7 w7 ⟨s1, rfl, hv, hst, hops⟩
        obtain ⟨F, N', v1, v2, v3, v4⟩ := hv
        obtain ⟨fp, was, hds, hfpF, hh, hS⟩ := v1.dsk
        have D7 := hid hds
        have B7 := hid v3
        have HFP : Hid (∀ k, fp k → w.heap.size ≤ k) := hid (fun k hk => v4 k (hfpF k hk))
        have HFL : Hid (∀ k, fp k → k < w7.heap.size) := hid hds.lt
        have HH := hid (hh.crash hS [true, false, true])
        have OPS : Hid ((dCrash s1 [true, false, true]).ops + 3000 ≤ 1000000) := hid (by
          have h1 : s1.ops ≤ 0 + 2010 := hops
          show s1.ops + 3000 ≤ 1000000
          omega)
        clear v1 v2 v3 v4 hds hfpF hh hS hst hops V6
        go_wp2_with fail
        have RD8 : Hid (Rd (w7.alloc (Obj.cells #[Value.bool true, Value.bool false, Value.bool true] 4)) 1 (.slice (some ⟨w7.heap.size, 0, none⟩) 3 3) 3 ([true, false, true].map Value.bool)) := hid (Rd.fresh w7 [Value.bool true, Value.bool false, Value.bool true] 4 (by simp [maxLen]))
        have hb8 : Below w7.heap.size w7 (w7.alloc (Obj.cells #[Value.bool true, Value.bool false, Value.bool true] 4)) := (Below.refl _ _).alloc (Nat.le_refl _) _
        have D8 := hid (D7.out.chg (Chg.new hb8 (fun _ => False)) (fun _ _ h => h))
        have B8 := hid (B7.out.trans (hb8.mono B7.out.size))
        clear hb8
        generalize w7.alloc (Obj.cells #[Value.bool true, Value.bool false, Value.bool true] 4) = w8 at *
        refine (dCrash_any w8 d fp 420 s1 _ [true, false, true] D8.out RD8.out (fun _ g hg hk => by
          have hg : g = w7.heap.size := by
            simp [Value.ownBlock] at hg
            exact hg.symm
          have := HFL.out g hk
          omega)).mono ?_
        rintro e8 w9 ⟨rfl, hd9, hc9⟩
        have D9 := hid hd9
        have B9 := hid (B8.out.trans (hc9.below HFP.out B8.out.size))
        clear hd9 hc9 D8 D7 RD8
        generalize dCrash s1 [true, false, true] = s2 at *
        go_wp2_with fail
        refine (PgW.reopen (w1 := w9) B9.out HFP.out D9.out HH.out.1 HH.out.2 OPS.out).mono ?_
        rintro e9 w10 ⟨q, rfl, hv⟩
        have V10 := hid hv
        have FR := hid (keptA_free z0 r 18 len0)
        have h18 : ((18 - len0 : Nat) : Int) = 18 - (len0 : Int) := by omega
        have hw18 : IntKind.i64.wrap (18 - (len0 : Int)) = 18 - (len0 : Int) := i64_small (by omega) (by omega)
        clear hv D9 B8
        go_wp2_with fail
        refine V10.out.root.mono ?_
        rintro e10 wx2 ⟨rfl, hw⟩
        subst hw
        rw [show (keptA z0 len0 r).root = r from rfl]
        go_wp2_with fail
        refine V10.out.free.mono ?_
        rintro e10 wx3 ⟨rfl, hw⟩
        subst hw
        rw [show 420 - 402 = 18 from rfl, FR.out, h18]
        clear FR
        go_wp2_with fail
        go_loopw [13] (fun i wr => ∃ j : Nat, j ≤ len0 ∧ i = .int .i64 j ∧ PgW w wr q d 420 s2 (keptA z0 len0 r) (keptA z0 len0 r) false 0) (fun i _ => len0 + 1 - (intOf i).toNat)
        case atStart => exact ⟨0, Nat.zero_le _, rfl, V10.out⟩
        case round =>
          obtain ⟨j, hj, rfl, hv⟩ := hrel
          have V11 := hid hv
          clear hv V10
          by_cases hlt : j < len0
          · obtain ⟨ab, ao, l, lq, c, rfl, hl, hc0, hbs0⟩ := H0.out.2.2 j hlt
            have HC := hid (fun (wx : World) (hb : Below w.heap.size w wx) => (hb.cell (p := ⟨ab, ao + j, none⟩) (World.block_lt_of_cell? w _ hc0)).trans hc0)
            have BS := hid hbs0
            have HL := hid hl
            have h5 := SM.out j l hlt hl
            have GT := hid (keptA_get (r := r) hlt hl)
            have hwj1 : IntKind.i64.wrap (1 + (j : Int)) = 1 + (j : Int) := i64_small (by omega) (by omega)
            clear hc0 hbs0 hl
            go_wp2_with fail
            refine (V11.out.get (1 + (j : Int))).mono ?_
            rw [GT.out]
            rintro e11 w12 ⟨gp, gm, gc, rfl, hm, hb, hv⟩
            have hm' : gm = 504 := hm.trans (pad504_length h5)
            subst hm'
            have V12 := hid hv
            have hc12 := HC.out _ hv.below
            have BS12 := hid (BS.out.new hv.below)
            have GB12 := hid hb
            have hlo : l.length ≤ 504 := h5
            have GC : Hid ((gp = none → gc = 0) ∧ 504 ≤ gc ∧ Bs w12 (.slice gp l.length gc) l) := hid (by
              have hb : Bs w12 (.slice gp 504 gc) (pad504 l) := hb
              obtain ⟨hl2, p0, c0, he, h3, h4, h6, h7⟩ := id hb
              injection he with e1 e2 e3
              subst e1
              subst e3
              refine ⟨h6, by rw [e2]; exact h3, ?_⟩
              have h8 := Bs.upto hb (hi := l.length) (by show l.length ≤ (pad504 l).length; rw [pad504_length h5]; exact h5)
              rw [show (pad504 l).take l.length = l by unfold pad504; rw [List.take_left' rfl]] at h8
              exact h8)
            have hgc : l.length ≤ gc := Nat.le_trans h5 GC.out.2.1
            clear hv hm hb GT h5
            go_wp2_with fail
            refine wp_region_plan (fun w' => Bs w' (.slice gp l.length gc) l ∧ w'.cell? ⟨ab, ao + j, none⟩ = some (.slice lq l.length c) ∧ Bs w' (.slice lq l.length c) l) (fun j => true) (fun j => false)
              (.of [0, 1, 2, 3, 4, 5, 6, 7, 8, 9, 10, 11, 12, 13, 14, 15, 16, 17, 18, 19, 20, 21, 22]) (by kernel_rfl) (by kernel_rfl) rfl (by kernel_rfl) (by kernel_rfl) ⟨GC.out.2.2.new (below_drewN (Below.refl _ _) 1), hc12, BS12.out.new (below_drewN (Below.refl _ _) 1)⟩ ?_
            iterate 14 (apply wpPlan_val; (case ho => rfl); (case hst => rfl); (case hw => rfl); (case hv => intro w' hS; obtain ⟨_, hS2, _⟩ := hS; go_simp; first | done | rfl); intro K hK; go_simp; refine hK _ ?_; clear hK K)
            apply wpPlan_val
            case ho => rfl
            case hst => rfl
            case hw => rfl
            case hv => intro w' hS; exact exec_slice_to 41 _ _ rfl 5 1 Try.underlying41 infoU8' gp 504 gc l.length .i64 GC.out.1 rfl rfl hgc
            intro K hK; go_simp; refine hK _ ?_; clear hK K
            apply wpPlan_val
            case ho => rfl
            case hst => rfl
            case hw => rfl
            case hv => intro w' hS; exact exec_bytes_str 41 9 _ rfl 5 Try.underlying41 Try.underlying5 Try.underlying9 (.slice gp l.length gc) l rfl hS.1
            intro K hK; go_simp; refine hK _ ?_; clear hK K
            iterate 4 (apply wpPlan_val; (case ho => rfl); (case hst => rfl); (case hw => rfl); (case hv => intro w' hS; obtain ⟨_, hS2, _⟩ := hS; go_simp; first | done | rfl); intro K hK; go_simp; refine hK _ ?_; clear hK K)
            apply wpPlan_val
            case ho => rfl
            case hst => rfl
            case hw => rfl
            case hv => intro w' hS; exact exec_bytes_str 41 9 _ rfl 5 Try.underlying41 Try.underlying5 Try.underlying9 (.slice lq l.length c) l rfl hS.2.2
            intro K hK; go_simp; refine hK _ ?_; clear hK K
            iterate 2 (apply wpPlan_val; (case ho => rfl); (case hst => rfl); (case hw => rfl); (case hv => intro w' hS; obtain ⟨_, hS2, _⟩ := hS; go_simp; first | done | rfl); intro K hK; go_simp; refine hK _ ?_; clear hK K)
            refine wpPlan_nil ?_
            simp only [Qn]
            have W13 := hid (show PgW w w12.drew q d 420 s2 (keptA z0 len0 r) (keptA z0 len0 r) false 0 from V12.out.new' (below_drewN (Below.refl _ _) 1))
            generalize w12.drew = w13 at *
            go_wp2_with fail
            go_roundw
            case rel => exact ⟨j + 1, by omega, by go_num, W13.out⟩
            case measure => simp [intOf]; omega
          · have hjl : len0 = j := by omega
            subst hjl
            go_wp2_with fail
            go_ret
            exact ⟨rfl, V11.out.below⟩
end Go.Proofs.Ytiphekepglihlaa
