/- triadlaw4.PagerGivesUp: the walk. -/
import Derived.Test.YtiphekepglihlaaActs5
namespace Go.Proofs.Ytiphekepglihlaa
open Go.RowKit Go.Maps
set_option linter.unusedVariables false

set_option maxRecDepth 100000 in
set_option maxHeartbeats 8000000 in
theorem pagerGivesUp_walk (a0 : Option Addr) (len0 cap0 : Nat) (z0 : List Act4) (a1 : Option Addr) (len1 cap1 : Nat) (z1 : List Act4) (w : World) (w0 : IsActs4 w a0 len0 cap0 z0) (w1 : IsActs4 w a1 len1 cap1 z1) :
    Calls Try.prog 8 #[.slice a0 len0 cap0, .slice a1 len1 cap1] w fun e w' => e = .returned (.bool true) ∧ Below w.heap.size w w' := by
  have Z0 := hid w0
  have Z1 := hid w1
  have hlm0 := w0.2.1
  have hlm1 := w1.2.1
  clear w0 w1
  go_enter Try.func8, Try.ntmps8
  go_wp2_with fail
  refine (known4_any _).mono ?_
  rintro e1 w1 ⟨rfl, hb⟩
  have B1 := hid hb
  have Y0 := hid (Z0.out.new hb)
  have Y1 := hid (Z1.out.new hb)
  clear hb
  go_wp2_with fail
  refine (few4_any w1 a0 len0 cap0 z0 Y0.out).mono ?_
  rintro e2 wx ⟨rfl, hw⟩
  subst hw
  rcases hf0 : few4 z0 with _ | _
  · go_wp2_with fail
    go_ret
    exact ⟨rfl, B1.out⟩
  · obtain ⟨hfb0, hfl0⟩ := few4_spec hf0
    have hl0 : len0 ≤ 60 := by have := Z0.out.1; omega
    have FB0 := hid hfb0
    clear hf0 hfb0 hfl0
    go_wp2_with fail
    refine (few4_any wx a1 len1 cap1 z1 Y1.out).mono ?_
    rintro e2 wy ⟨rfl, hw⟩
    subst hw
    rcases hf1 : few4 z1 with _ | _
    · go_wp2_with fail
      go_ret
      exact ⟨rfl, B1.out⟩
    · obtain ⟨hfb1, hfl1⟩ := few4_spec hf1
      have hl1 : len1 ≤ 60 := by have := Z1.out.1; omega
      have FB1 := hid hfb1
      clear hf1 hfb1 hfl1 Y0 Y1
      go_wp2_with fail
      refine (dNew_any _ 412).mono ?_
      rintro e2 w2 ⟨d, rfl, hd2, hb2, hd⟩
      rw [show clampN 412 = 412 from rfl] at hd2
      have D2 := hid hd2
      have B2 := hid (B1.out.trans (hb2.mono B1.out.size))
      have hfp : Hid (∀ k, wy.heap.size ≤ k ∧ k < w2.heap.size → w.heap.size ≤ k) := hid (fun k hk => Nat.le_trans B1.out.size hk.1)
      clear hd2 hb2
      go_wp2_with fail
      refine (openNew w2 412 (by omega) (by omega) d _ D2.out).mono ?_
      rintro e3 w3 ⟨p, F, rfl, hv, hc, hp, hF⟩
      have V3 := hid hv
      have B3 := hid (B2.out.trans (hc.below hfp.out B2.out.size))
      have HF : Hid (∀ k, F k → w.heap.size ≤ k) := hid (fun k hk => (hF k hk).elim (hfp.out k) (fun h => Nat.le_trans B2.out.size h))
      clear hv hc hF D2 hp
      go_wp2_with fail
      refine (rfNew_any w3 412 (by omega) (by omega)).mono ?_
      rintro e4 w4 ⟨x, rfl, hx, hb4⟩
      have DU : Duo w4 p d x 412 F (fun k => w3.heap.size ≤ k ∧ k < w4.heap.size) (dNew 412) as0 as0 false 0 as0 as0 false 0 := ⟨V3.out.new' hb4, ⟨hx, rfl⟩, fun k hk hg => by have := V3.out.lt k hk; omega⟩
      have AP4 := hid (Apart.of DU (B3.out.trans (hb4.mono B3.out.size)) (fun k hk => hk.elim (HF.out k) (fun h => Nat.le_trans B3.out.size h.1)))
      clear hx hb4 V3 HF DU B3
      go_wp2_with fail
      refine AP4.out.du.pg.begin.mono ?_
      rintro e5 w5 ⟨rfl, hto5⟩
      obtain ⟨F5, G5, N5, ap5, hN5⟩ := AP4.out.to (AP4.out.du.left hto5)
      have AP5 := hid ap5
      clear hto5 ap5 AP4
      go_wp2_with fail
      refine (AP5.out.du.rf.begin (by omega)).mono ?_
      rintro e6 w6 ⟨rfl, hto6⟩
      obtain ⟨F6, G6, N6, ap6, hN6⟩ := AP5.out.to (AP5.out.du.right hto6)
      have AP6 := hid ap6
      have hN6' : N6 ≤ 1 := by omega
      clear hto6 ap6 AP5 hN5 hN6
      go_wp2_with fail
      go_loopw [9] (fun i wr => ∃ (j : Nat) (F G : Nat → Prop) (T : AS) (N : Nat), j ≤ len0 ∧ i = .int .i64 j ∧ Apart w wr p d x 412 F G (dNew 412) as0 T true N as0 T true (3000 + 6000 * j) ∧ N ≤ 1 + j) (fun i _ => len0 + 1 - (Go.RowKit.intOf i).toNat)
      case atStart => exact ⟨0, _, _, _, _, Nat.zero_le _, rfl, AP6.out, hN6'⟩
      case round =>
        obtain ⟨j, F, G, T, N, hj, rfl, hap, hN⟩ := hrel
        have AP := hid hap
        clear hap AP6 hN6'
        by_cases hlt : j < len0
        · obtain ⟨ab, ao, q, rfl, hq, hat⟩ := Z0.out.2.2 j hlt
          obtain ⟨pb, cb, k0, k1, k2, hbs, hbl, hwf⟩ := hat.keep AP.out.below
          have BS := hid hbs
          have HBL := hid hbl
          have hq600 := FB0.out q (List.mem_of_getElem? hq)
          have W14 := hid (fun w => within_any w q.kind 14 (by omega) (by omega))
          have hk0 : 0 ≤ q.kind % 14 := Int.emod_nonneg _ (by omega)
          clear hbs hbl hat hq
          go_wp2_with fail
          refine (W14.out _).mono ?_
          rintro e5 wz ⟨rfl, hw⟩
          subst hw
          by_cases hk1 : 1 ≤ q.kind % 14
          · by_cases hk9 : q.kind % 14 ≤ 9
            · have DO := hid (do_any AP.out.du ⟨by omega, by omega⟩ (by omega) (by omega) q.kind q.num pb cb q.b BS.out hq600 (fun hz g hg hf => by have h1 := HBL.out hz g hg; have h2 := AP.out.new g hf; omega) hwf _ rfl (fun h _ => by omega))
              have HK := hid hk1
              have HK9 := hid hk9
              generalize hkk : q.kind % 14 = kk at *
              clear hkk
              go_wp2_with fail
              refine DO.out.mono ?_
              rintro e6 w6 ⟨r, s6, rfl, hr, hdt, hst6, hops6, hs6⟩
              have hse := hs6 (.inl (by have := HK9.out; omega))
              subst hse
              rw [(actP_in HK.out HK9.out).1, (actP_in HK.out HK9.out).2] at hdt
              obtain ⟨F8, G8, N8, ap8, hN8⟩ := AP.out.to hdt
              have AP8 := hid ap8
              clear ap8 hdt hr DO hst6 hops6 hs6 AP
              go_wp2_with fail
              go_roundw
              case rel => exact ⟨j + 1, F8, G8, _, N8, by omega, by go_num, by rw [show 3000 + 6000 * (j + 1) = 3000 + 6000 * j + 6000 by omega]; exact AP8.out, by omega⟩
              case measure => simp [Go.RowKit.intOf]; omega
            · go_wp2_with fail
              go_roundw
              case rel => exact ⟨j + 1, F, G, T, N, by omega, by go_num, AP.out.more (by omega), by omega⟩
              case measure => simp [Go.RowKit.intOf]; omega
          · go_wp2_with fail
            go_roundw
            case rel => exact ⟨j + 1, F, G, T, N, by omega, by go_num, AP.out.more (by omega), by omega⟩
            case measure => simp [Go.RowKit.intOf]; omega
        · go_wp2_with fail
          refine (AP.out.du.pg.commit (by omega) (by show (0 : Int) + 3000 ≤ 1000000; decide) (by show (0 : Int) < 1; decide)).mono ?_
          rintro e5 w5 ⟨s1, rfl, hto5, hst1, hops1⟩
          obtain ⟨F5, G5, N5, ap5, hN5⟩ := AP.out.to (AP.out.du.left hto5)
          have AP5 := hid ap5
          clear hto5 ap5 AP hst1 hops1
          go_wp2_with fail
          refine AP5.out.du.rf.commit.mono ?_
          rintro e6 w6 ⟨rfl, hto6⟩
          obtain ⟨F6, G6, N6, ap6, hN6⟩ := AP5.out.to (AP5.out.du.right hto6)
          have AP6 := hid ap6
          clear hto6 ap6 AP5
          go_wp2_with fail
          refine AP6.out.du.pg.begin.mono ?_
          rintro e7 w7 ⟨rfl, hto7⟩
          obtain ⟨F7, G7, N7, ap7, hN7⟩ := AP6.out.to (AP6.out.du.left hto7)
          have AP7 := hid ap7
          have hN7' : N7 ≤ 64 := by omega
          clear hto7 ap7 AP6 hN5 hN6 hN7
          generalize hMM : 3000 + 6000 * j + 3000 = MM at AP7
          have hMM2 : MM ≤ 400000 := by omega
          clear hMM
          go_wp2_with fail
          go_loopw [11] (fun i wr => ∃ (j F G : _) (T2 : AS) (N : Nat), (j : Nat) ≤ len1 ∧ i = .int .i64 (j : Int) ∧ Apart w wr p d x 412 F G s1 T T2 true N T T false MM ∧ N ≤ 64 + j) (fun i _ => len1 + 1 - (Go.RowKit.intOf i).toNat)
          case atStart => exact ⟨0, _, _, _, _, Nat.zero_le _, rfl, AP7.out, by omega⟩
          case round =>
            obtain ⟨j2, F, G, T2, N2, hj2, rfl, hap2, hN2⟩ := hrel
            have APa := hid hap2
            clear hap2 AP7
            by_cases hlt2 : j2 < len1
            · obtain ⟨ab, ao, q, rfl, hq, hat⟩ := Z1.out.2.2 j2 hlt2
              have HAT := hid hat
              have hq600 := FB1.out q (List.mem_of_getElem? hq)
              have W14 := hid (fun w => within_any w q.kind 14 (by omega) (by omega))
              have hk0 : 0 ≤ q.kind % 14 := Int.emod_nonneg _ (by omega)
              clear hat hq
              go_wp2_with fail
              refine (rfNew_any wr 412 (by omega) (by omega)).mono ?_
              rintro e8 w8 ⟨y, rfl, hy, hb8⟩
              have AP8 := hid (APa.out.new' hb8)
              have HLT := hid APa.out.du.lt
              have hY := hid (show XPg w8 y (fun k => wr.heap.size ≤ k ∧ k < w8.heap.size) 412 as0 as0 false 0 from ⟨hy, rfl⟩)
              have hws := APa.out.below.size
              have hz8 := hb8.size
              clear hy hb8 APa
              go_wp2_with fail
              refine (hY.out.begin (by omega)).mono ?_
              rintro e9 w9 ⟨rfl, H9, hx9, hc9, hf9⟩
              have AP9 := hid (AP8.out.beside hc9 (fun k hk hf => by have := HLT.out k hk; omega) (fun k hk => Nat.le_trans hws hk.1))
              have DY := hid (show Duo w9 p d y 412 F H9 s1 T T2 true N2 as0 as0 true (0 + 3000) from ⟨AP9.out.du.pg, hx9, fun k hk hg => by
                have h1 := HLT.out k (.inl hk)
                rcases hf9 k hg with h2 | h2
                · omega
                · have := hY.out.lt; have h3 := AP8.out.du.lt k (.inl hk); omega⟩)
              have HH9 : Hid (∀ k, H9 k → wr.heap.size ≤ k) := hid (fun k hk => (hf9 k hk).elim (fun h => h.1) (fun h => Nat.le_trans hz8 h))
              obtain ⟨pb, cb, k0, k1, k2, hbs, hbl, hwf⟩ := HAT.out.keep AP9.out.below
              have BS := hid hbs
              have HBL := hid hbl
              clear hx9 hc9 hf9 AP8 hY hbs hbl
              go_wp2_with fail
              refine (W14.out _).mono ?_
              rintro e5 wz ⟨rfl, hw⟩
              subst hw
              by_cases hk1 : 1 ≤ q.kind % 14
              · by_cases hk9 : q.kind % 14 ≤ 9
                · have DO := hid (do_any DY.out ⟨by omega, by omega⟩ (by omega) (by omega) q.kind q.num pb cb q.b BS.out hq600 (fun hz g hg hf => by
                    have h1 := HBL.out hz g hg
                    rcases hf with h2 | h2
                    · have := AP9.out.new g (.inl h2); omega
                    · have := HH9.out g h2; omega) hwf _ rfl (fun h _ => by omega))
                  have HK := hid hk1
                  have HK9 := hid hk9
                  generalize hkk : q.kind % 14 = kk at *
                  clear hkk
                  go_wp2_with fail
                  refine DO.out.mono ?_
                  rintro e6 w6 ⟨r, s6, rfl, hr, hdt, hst6, hops6, hs6⟩
                  have hse := hs6 (.inl (by have := HK9.out; omega))
                  subst hse
                  rw [(actP_in HK.out HK9.out).1, (actP_in HK.out HK9.out).2] at hdt
                  obtain ⟨F8, N8, ap8, hN8⟩ := AP9.out.other (fun k hk hg => by have h1 := HH9.out k hk; have h2 := HLT.out k (.inr hg); omega) (fun k hk => Nat.le_trans hws (HH9.out k hk)) hdt
                  have APb := hid ap8
                  clear ap8 hdt hr DO hst6 hops6 hs6 AP9 DY
                  go_wp2_with fail
                  go_roundw
                  case rel => exact ⟨j2 + 1, F8, G, _, N8, by omega, by go_num, APb.out, by omega⟩
                  case measure => simp [Go.RowKit.intOf]; omega
                · go_wp2_with fail
                  go_roundw
                  case rel => exact ⟨j2 + 1, F, G, T2, N2, by omega, by go_num, AP9.out, by omega⟩
                  case measure => simp [Go.RowKit.intOf]; omega
              · go_wp2_with fail
                go_roundw
                case rel => exact ⟨j2 + 1, F, G, T2, N2, by omega, by go_num, AP9.out, by omega⟩
                case measure => simp [Go.RowKit.intOf]; omega
            · go_wp2_with fail
              refine APa.out.du.pg.abort.mono ?_
              rintro e5 w5 ⟨rfl, hto5⟩
              obtain ⟨F5, G5, N5, ap5, hN5⟩ := APa.out.to (APa.out.du.left hto5)
              have AP5 := hid ap5
              clear hto5 ap5 APa
              go_wp2_with fail
              refine (same_any AP5.out.du ⟨by omega, by omega⟩).mono ?_
              rintro e6 w6 ⟨rfl, hb6⟩
              have AP6 := hid (AP5.out.new' hb6)
              clear hb6 AP5
              go_wp2_with fail
              refine AP6.out.du.pg.begin.mono ?_
              rintro e7 w7 ⟨rfl, hto7⟩
              obtain ⟨F7, G7, N7, ap7, hN7⟩ := AP6.out.to (AP6.out.du.left hto7)
              have AP7 := hid ap7
              clear hto7 ap7 AP6
              go_wp2_with fail
              refine (AP7.out.du.rf.begin (by omega)).mono ?_
              rintro e8 w8 ⟨rfl, hto8⟩
              obtain ⟨F8, G8, N8, ap8, hN8⟩ := AP7.out.to (AP7.out.du.right hto8)
              have AP8 := hid ap8
              clear hto8 ap8 AP7
              go_wp2_with fail
              refine (AP8.out.du.pg.new (by omega)).mono ?_
              rintro e9 w9 ⟨rfl, hto9⟩
              obtain ⟨F9, G9, N9, ap9, hN9⟩ := AP8.out.to (AP8.out.du.left hto9)
              have AP9 := hid ap9
              clear hto9 ap9 AP8
              generalize hu1 : (newO 412 true T).1 = u1
              generalize hu2 : (newO 412 true T).2.1 = u2
              have U1 := hid hu1
              have U2 := hid hu2
              clear hu1 hu2
              go_wp2_with fail
              refine (AP9.out.du.rf.new (by omega)).mono ?_
              rw [U1.out, U2.out]
              rintro e10 w10 ⟨rfl, hto10⟩
              obtain ⟨F10, G10, N10, ap10, hN10⟩ := AP9.out.to (AP9.out.du.right hto10)
              have AP10 := hid ap10
              clear hto10 ap10 AP9
              go_wp2_with fail
              go_ret
              exact ⟨rfl, AP10.out.below⟩
end Go.Proofs.Ytiphekepglihlaa
