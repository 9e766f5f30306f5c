/- triadlaw4.PagerCrashes: the walk. -/
import Derived.Test.YtiphekepglihlaaCrash4
namespace Go.Proofs.Ytiphekepglihlaa
open Go.RowKit Go.Maps
set_option linter.unusedVariables false

theorem pgInfo10 : (Try.prog.info? 68).map (·.size) = some 10 := by kernel_rfl
theorem pgInfo10z : (Try.prog.info? 68).map (·.zero) = some (some (.agg [Value.int .i64 0, .map none, .slice none 0 0, .int .i64 0, .int .i64 0, .map none, .slice none 0 0, .int .i64 0, .int .i64 0, .bool false].toArray)) := by kernel_rfl

set_option maxRecDepth 100000 in
set_option maxHeartbeats 8000000 in
theorem pagerCrashes_walk (a0 : Option Addr) (len0 cap0 : Nat) (z0 : List Act4) (a1 : Option Addr) (len1 cap1 : Nat) (z1 : List Act4) (a2 : Int) (a3 : Option Addr) (len3 cap3 : Nat) (z3 : List Bool) (w : World) (w0 : IsActs4 w a0 len0 cap0 z0) (w1 : IsActs4 w a1 len1 cap1 z1) (w2 : (Lit.int .i64 a2).wf = true) (w3 : IsBools w a3 len3 cap3 z3) :
    Calls Try.prog 10 #[.slice a0 len0 cap0, .slice a1 len1 cap1, .int .i64 a2, .slice a3 len3 cap3] w fun e w' => e = .returned (.bool true) ∧ Below w.heap.size w w' := by
  have Z0 := hid w0
  have Z1 := hid w1
  have Z3 := hid w3
  have hlm0 := w0.2.1
  have hlm1 := w1.2.1
  have hs0 : 0 ≤ a2 % 40 := Int.emod_nonneg _ (by omega)
  have hs1 : a2 % 40 < 40 := Int.emod_lt_of_pos _ (by omega)
  have W40 := hid (fun w => within_any w a2 40 (by omega) (by omega))
  have hw40 : IntKind.i64.wrap (1 + a2 % 40) = 1 + a2 % 40 := i64_small (by omega) (by omega)
  clear w0 w1 w2 w3
  go_enter Try.func10, Try.ntmps10
  go_wp2_with fail
  refine (known4_any _).mono ?_
  rintro e1 w1 ⟨rfl, hb⟩
  have B1 := hid hb
  have Y0 := hid (Z0.out.new hb)
  have Y1 := hid (Z1.out.new hb)
  clear hb
  go_wp2_with fail
  refine (few4_any w1 a0 len0 cap0 z0 Y0.out).mono ?_
  rintro e2 wx ⟨rfl, hw⟩
  subst hw
  rcases hf0 : few4 z0 with _ | _
  · go_wp2_with fail
    go_ret
    exact ⟨rfl, B1.out⟩
  · obtain ⟨hfb0, hfl0⟩ := few4_spec hf0
    have hl0 : len0 ≤ 60 := by have := Z0.out.1; omega
    have FB0 := hid hfb0
    clear hf0 hfb0 hfl0
    go_wp2_with fail
    refine (few4_any wx a1 len1 cap1 z1 Y1.out).mono ?_
    rintro e2 wy ⟨rfl, hw⟩
    subst hw
    rcases hf1 : few4 z1 with _ | _
    · go_wp2_with fail
      go_ret
      exact ⟨rfl, B1.out⟩
    · obtain ⟨hfb1, hfl1⟩ := few4_spec hf1
      have hl1 : len1 ≤ 60 := by have := Z1.out.1; omega
      have FB1 := hid hfb1
      clear hf1 hfb1 hfl1 Y0 Y1
      go_wp2_with fail
      refine (dNew_any _ 412).mono ?_
      rintro e2 w2 ⟨d, rfl, hd2, hb2, hd⟩
      rw [show clampN 412 = 412 from rfl] at hd2
      have D2 := hid hd2
      have B2 := hid (B1.out.trans (hb2.mono B1.out.size))
      have hfp : Hid (∀ k, wy.heap.size ≤ k ∧ k < w2.heap.size → w.heap.size ≤ k) := hid (fun k hk => Nat.le_trans B1.out.size hk.1)
      clear hd2 hb2
      go_wp2_with fail
      refine (openNew w2 412 (by omega) (by omega) d _ D2.out).mono ?_
      rintro e3 w3 ⟨p, F, rfl, hv, hc, hp, hF⟩
      have V3 := hid hv
      have B3 := hid (B2.out.trans (hc.below hfp.out B2.out.size))
      have HF : Hid (∀ k, F k → w.heap.size ≤ k) := hid (fun k hk => (hF k hk).elim (hfp.out k) (fun h => Nat.le_trans B2.out.size h))
      clear hv hc hF D2 hp
      go_wp2_with fail
      refine (rfNew_any w3 412 (by omega) (by omega)).mono ?_
      rintro e4 w4 ⟨x, rfl, hx, hb4⟩
      have DU : Duo w4 p d x 412 F (fun k => w3.heap.size ≤ k ∧ k < w4.heap.size) (dNew 412) as0 as0 false 0 as0 as0 false 0 := ⟨V3.out.new' hb4, ⟨hx, rfl⟩, fun k hk hg => by have := V3.out.lt k hk; omega⟩
      have AP4 := hid (Apart.of DU (B3.out.trans (hb4.mono B3.out.size)) (fun k hk => hk.elim (HF.out k) (fun h => Nat.le_trans B3.out.size h.1)))
      clear hx hb4 V3 HF DU B3
      go_wp2_with fail
      refine AP4.out.du.pg.begin.mono ?_
      rintro e5 w5 ⟨rfl, hto5⟩
      obtain ⟨F5, G5, N5, ap5, hN5⟩ := AP4.out.to (AP4.out.du.left hto5)
      have AP5 := hid ap5
      clear hto5 ap5 AP4
      go_wp2_with fail
      refine (AP5.out.du.rf.begin (by omega)).mono ?_
      rintro e6 w6 ⟨rfl, hto6⟩
      obtain ⟨F6, G6, N6, ap6, hN6⟩ := AP5.out.to (AP5.out.du.right hto6)
      have AP6 := hid ap6
      have hN6' : N6 ≤ 1 := by omega
      clear hto6 ap6 AP5 hN5 hN6
      go_wp2_with fail
      go_loopw [13] (fun i wr => ∃ (j : Nat) (F G : Nat → Prop) (T : AS) (N : Nat), j ≤ len0 ∧ i = .int .i64 j ∧ Apart w wr p d x 412 F G (dNew 412) as0 T true N as0 T true (3000 + 6000 * j) ∧ N ≤ 1 + j) (fun i _ => len0 + 1 - (Go.RowKit.intOf i).toNat)
      case atStart => exact ⟨0, _, _, _, _, Nat.zero_le _, rfl, AP6.out, hN6'⟩
      case round =>
        obtain ⟨j, F, G, T, N, hj, rfl, hap, hN⟩ := hrel
        have AP := hid hap
        clear hap AP6 hN6'
        by_cases hlt : j < len0
        · obtain ⟨ab, ao, q, rfl, hq, hat⟩ := Z0.out.2.2 j hlt
          obtain ⟨pb, cb, k0, k1, k2, hbs, hbl, hwf⟩ := hat.keep AP.out.below
          have BS := hid hbs
          have HBL := hid hbl
          have hq600 := FB0.out q (List.mem_of_getElem? hq)
          have W14 := hid (fun w => within_any w q.kind 14 (by omega) (by omega))
          have hk0 : 0 ≤ q.kind % 14 := Int.emod_nonneg _ (by omega)
          clear hbs hbl hat hq
          go_wp2_with fail
          refine (W14.out _).mono ?_
          rintro e5 wz ⟨rfl, hw⟩
          subst hw
          by_cases hk1 : 1 ≤ q.kind % 14
          · by_cases hk9 : q.kind % 14 ≤ 9
            · have DO := hid (do_any AP.out.du ⟨by omega, by omega⟩ (by omega) (by omega) q.kind q.num pb cb q.b BS.out hq600 (fun hz g hg hf => by have h1 := HBL.out hz g hg; have h2 := AP.out.new g hf; omega) hwf _ rfl (fun h _ => by omega))
              have HK := hid hk1
              have HK9 := hid hk9
              generalize hkk : q.kind % 14 = kk at *
              clear hkk
              go_wp2_with fail
              refine DO.out.mono ?_
              rintro e6 w6 ⟨r, s6, rfl, hr, hdt, hst6, hops6, hs6⟩
              have hse := hs6 (.inl (by have := HK9.out; omega))
              subst hse
              rw [(actP_in HK.out HK9.out).1, (actP_in HK.out HK9.out).2] at hdt
              obtain ⟨F8, G8, N8, ap8, hN8⟩ := AP.out.to hdt
              have AP8 := hid ap8
              clear ap8 hdt hr DO hst6 hops6 hs6 AP
              go_wp2_with fail
              go_roundw
              case rel => exact ⟨j + 1, F8, G8, _, N8, by omega, by go_num, by rw [show 3000 + 6000 * (j + 1) = 3000 + 6000 * j + 6000 by omega]; exact AP8.out, by omega⟩
              case measure => simp [Go.RowKit.intOf]; omega
            · go_wp2_with fail
              go_roundw
              case rel => exact ⟨j + 1, F, G, T, N, by omega, by go_num, AP.out.more (by omega), by omega⟩
              case measure => simp [Go.RowKit.intOf]; omega
          · go_wp2_with fail
            go_roundw
            case rel => exact ⟨j + 1, F, G, T, N, by omega, by go_num, AP.out.more (by omega), by omega⟩
            case measure => simp [Go.RowKit.intOf]; omega
        · go_wp2_with fail
          refine (AP.out.du.pg.commit (by omega) (by show (0 : Int) + 3000 ≤ 1000000; decide) (by show (0 : Int) < 1; decide)).mono ?_
          rintro e5 w5 ⟨s1, rfl, hto5, hst1, hops1⟩
          obtain ⟨F5, G5, N5, ap5, hN5⟩ := AP.out.to (AP.out.du.left hto5)
          have AP5 := hid ap5
          have OPS1 : Hid (s1.ops ≤ 2010) := hid (by have h1 : s1.ops ≤ 0 + 2010 := hops1; omega)
          clear hto5 ap5 AP hst1 hops1
          go_wp2_with fail
          refine AP5.out.du.rf.commit.mono ?_
          rintro e6 w6 ⟨rfl, hto6⟩
          obtain ⟨F6, G6, N6, ap6, hN6⟩ := AP5.out.to (AP5.out.du.right hto6)
          have AP6 := hid ap6
          clear hto6 ap6 AP5
          go_wp2_with fail
          refine AP6.out.du.pg.begin.mono ?_
          rintro e7 w7 ⟨rfl, hto7⟩
          obtain ⟨F7, G7, N7, ap7, hN7⟩ := AP6.out.to (AP6.out.du.left hto7)
          have AP7 := hid ap7
          have hN7' : N7 ≤ 64 := by omega
          clear hto7 ap7 AP6 hN5 hN6 hN7
          generalize hMM : 3000 + 6000 * j + 3000 = MM at AP7
          have hMM2 : MM ≤ 400000 := by omega
          clear hMM
          go_wp2_with fail
          refine (AP7.out.du.rf.begin (by omega)).mono ?_
          rintro e8 w8 ⟨rfl, hto8⟩
          obtain ⟨F8, G8, N8, ap8, hN8⟩ := AP7.out.to (AP7.out.du.right hto8)
          have AP8 := hid ap8
          have hN8' : N8 ≤ 64 := by omega
          clear hto8 ap8 AP7 hN8
          go_wp2_with fail
          go_loopw [15] (fun i wr => ∃ (j F G : _) (T2 : AS) (N : Nat), (j : Nat) ≤ len1 ∧ i = .int .i64 (j : Int) ∧ Apart w wr p d x 412 F G s1 T T2 true N T T2 true (MM + 3000 + 6000 * j) ∧ N ≤ 64 + j) (fun i _ => len1 + 1 - (Go.RowKit.intOf i).toNat)
          case atStart => exact ⟨0, _, _, _, _, Nat.zero_le _, rfl, AP8.out, by omega⟩
          case round =>
            obtain ⟨j2, F, G, T2, N2, hj2, rfl, hap2, hN2⟩ := hrel
            have APa := hid hap2
            clear hap2 AP8
            by_cases hlt2 : j2 < len1
            · obtain ⟨ab, ao, q, rfl, hq, hat⟩ := Z1.out.2.2 j2 hlt2
              obtain ⟨pb, cb, k0, k1, k2, hbs, hbl, hwf⟩ := hat.keep APa.out.below
              have BS := hid hbs
              have HBL := hid hbl
              have hq600 := FB1.out q (List.mem_of_getElem? hq)
              have W14 := hid (fun w => within_any w q.kind 14 (by omega) (by omega))
              have hk0 : 0 ≤ q.kind % 14 := Int.emod_nonneg _ (by omega)
              clear hbs hbl hat hq
              go_wp2_with fail
              refine (W14.out _).mono ?_
              rintro e5 wz ⟨rfl, hw⟩
              subst hw
              by_cases hk1 : 1 ≤ q.kind % 14
              · by_cases hk9 : q.kind % 14 ≤ 9
                · have DO := hid (do_any APa.out.du ⟨by omega, by omega⟩ (by omega) (by omega) q.kind q.num pb cb q.b BS.out hq600 (fun hz g hg hf => by have h1 := HBL.out hz g hg; have h2 := APa.out.new g hf; omega) hwf _ rfl (fun h _ => by omega))
                  have HK := hid hk1
                  have HK9 := hid hk9
                  generalize hkk : q.kind % 14 = kk at *
                  clear hkk
                  go_wp2_with fail
                  refine DO.out.mono ?_
                  rintro e6 w6 ⟨r, s6, rfl, hr, hdt, hst6, hops6, hs6⟩
                  have hse := hs6 (.inl (by have := HK9.out; omega))
                  subst hse
                  rw [(actP_in HK.out HK9.out).1, (actP_in HK.out HK9.out).2] at hdt
                  obtain ⟨F8, G8, N8, ap8, hN8⟩ := APa.out.to hdt
                  have AP8 := hid ap8
                  clear ap8 hdt hr DO hst6 hops6 hs6 APa
                  go_wp2_with fail
                  go_roundw
                  case rel => exact ⟨j2 + 1, F8, G8, _, N8, by omega, by go_num, by rw [show MM + 3000 + 6000 * (j2 + 1) = MM + 3000 + 6000 * j2 + 6000 by omega]; exact AP8.out, by omega⟩
                  case measure => simp [Go.RowKit.intOf]; omega
                · go_wp2_with fail
                  go_roundw
                  case rel => exact ⟨j2 + 1, F, G, T2, N2, by omega, by go_num, APa.out.more (by omega), by omega⟩
                  case measure => simp [Go.RowKit.intOf]; omega
              · go_wp2_with fail
                go_roundw
                case rel => exact ⟨j2 + 1, F, G, T2, N2, by omega, by go_num, APa.out.more (by omega), by omega⟩
                case measure => simp [Go.RowKit.intOf]; omega
            · go_wp2_with fail
              refine (W40.out _).mono ?_
              rintro e5 wz ⟨rfl, hw⟩
              subst hw
              go_wp2_with fail
              have XG := hid APa.out.du.rf
              have DIS := hid APa.out.du.dis
              have NEWS := hid APa.out.new
              have BW := hid APa.out.below
              refine (APa.out.du.pg.stopD (1 + a2 % 40) (by omega)).mono ?_
              rintro e6 w6 ⟨rfl, hv6, hc6⟩
              have V6 := hid hv6
              have X6 := hid (XG.out.chg hc6 (fun k hk hf => DIS.out k hf hk))
              have B6 := hid (BW.out.trans (hc6.below (fun k hk => NEWS.out k (.inl hk)) BW.out.size))
              clear hv6 hc6 APa XG BW W40
              go_wp2_with fail
              refine (V6.out.commitC (by omega) (by show s1.ops + 3000 ≤ 1000000; have := OPS1.out; omega)).mono ?_
              rintro e7 w7 ⟨v, s7, fp, rfl, hv01, hd7, hfp7, hc7, hops7, hn7, haft⟩
              have X7 := hid (X6.out.chg hc7 (fun k hk hf => DIS.out k hf hk))
              have B7 := hid (B6.out.trans (hc7.below (fun k hk => NEWS.out k (.inl hk)) B6.out.size))
              have D7 := hid hd7
              have FP : Hid (∀ k, fp k → w.heap.size ≤ k ∧ ¬ G k) := hid (fun k hk => by
                rcases hfp7 k hk with h | h
                · exact ⟨NEWS.out k (.inl h), DIS.out k h⟩
                · exact ⟨Nat.le_trans B6.out.size h, fun hg => by have := X6.out.lt k hg; omega⟩)
              have OPS7 : Hid (s7.ops + 3000 ≤ 1000000) := hid (by have h1 : s7.ops ≤ s1.ops + 2010 := hops7; have := OPS1.out; omega)
              have AFT := hid haft
              have V01 := hid hv01
              have hz67 := hc7.size
              clear hv01 hd7 hfp7 hc7 hops7 haft V6 X6 B6 hn7
              go_wp2_with fail
              have hl3 : z3.length = len3 := Z3.out.1
              have hrd3 : Rd w7 1 (.slice a3 len3 cap3) z3.length (z3.map Value.bool) := by rw [hl3]; exact Z3.out.2.new (B7.out.mono (Nat.le_refl _))
              refine (dCrash_any w7 d fp 412 s7 _ z3 D7.out hrd3 (fun hz g hg hk => by
                have h1 := Rd.lt Z3.out.2 (by omega) (by decide) g hg
                have h2 := (FP.out g hk).1
                omega)).mono ?_
              rintro e8 w8 ⟨rfl, hd8, hc8⟩
              have X8 := hid (X7.out.chg hc8 (fun k hk hf => (FP.out k hf).2 hk))
              have B8 := hid (B7.out.trans (hc8.below (fun k hk => (FP.out k hk).1) B7.out.size))
              have D8 := hid hd8
              clear hd8 hc8 D7 X7 B7 hrd3
              obtain ⟨Fd, hr, hst, ha⟩ := AFT.out z3
              have OC := hid (PgV.openC D8.out ⟨by omega, by omega⟩ hr hst ha OPS7.out)
              clear hr hst ha AFT
              go_wp2_with fail
              refine OC.out.mono ?_
              rintro e9 w9 ⟨q, F9, s9, A, rfl, hv9, hA9, hc9, hF9⟩
              have V9 := hid hv9
              have X9 := hid (X8.out.chg hc9 (fun k hk hf => (FP.out k hf).2 hk))
              have B9 := hid (B8.out.trans (hc9.below (fun k hk => (FP.out k hk).1) B8.out.size))
              have DIS9 : Hid (∀ k, F9 k → ¬ G k) := hid (fun k hk hg => by
                rcases hF9 k hk with h | h
                · exact (FP.out k h).2 hg
                · have := X8.out.lt k hg; omega)
              have HA9 := hid hA9
              clear hv9 hA9 hc9 hF9 X8 B8 OC
              obtain ⟨b, gv, D, b2, gv2, D2, h1, h2, h3, h4, h5, h6, h7, h8, h9, h10, h11, h12⟩ := (show XOp w9 x G 412 T T2 (MM + 3000 + 6000 * j2) from X9.out)
              obtain ⟨gp, gc, rfl⟩ := own_shape h2.row
              obtain ⟨gp2, gc2, rfl⟩ := own_shape h3.row
              have P9 := hid h1
              have GX := hid h9
              have XO9 := hid (show XOp w9 x G 412 T T2 (MM + 3000 + 6000 * j2) from X9.out)
              have YO : Hid (∀ w' y, Chg (fun _ => False) w9 w' → Blk w' y [.int .i64 (((412 : Nat) : Int) - 401), .map (some b), .slice gp T.gone.length gc, .int .i64 (T.ever + 1), .int .i64 T.root, .map (some b2), .slice gp2 T2.gone.length gc2, .int .i64 (T2.ever + 1), .int .i64 T2.root, .bool true] 68 → w9.heap.size ≤ y → ∃ Gy, XOp w' y Gy 412 T T2 (MM + 3000 + 6000 * j2) ∧ ∀ k, Gy k → (G k ∧ k ≠ x) ∨ k = y) := hid (fun w' y hc hb hy => by
                have l1 := h2.lt
                have l2 := h3.lt
                refine ⟨fun k => (stBl b (.slice gp T.gone.length gc) k ∨ stBl b2 (.slice gp2 T2.gone.length gc2) k) ∨ k = y, ⟨b, _, D, b2, _, D2, hb, h2.chg hc (fun _ _ h => h), h3.chg hc (fun _ _ h => h), h4, h5, fun hk => by have := l1 y hk; omega, fun hk => by have := l2 y hk; omega, h8, .inr rfl, fun k hk => .inl (.inl hk), fun k hk => .inl (.inr hk), fun k hk => ?_⟩, fun k hk => ?_⟩
                · rcases hk with (hk | hk) | rfl
                  · exact Nat.lt_of_lt_of_le (l1 k hk) hc.size
                  · exact Nat.lt_of_lt_of_le (l2 k hk) hc.size
                  · exact hb.lt
                · rcases hk with (hk | hk) | rfl
                  · exact .inl ⟨h10 k hk, fun e => h6 (e ▸ hk)⟩
                  · exact .inl ⟨h11 k hk, fun e => h7 (e ▸ hk)⟩
                  · exact .inr rfl)
              clear h1 h2 h3 h4 h5 h6 h7 h8 h9 h10 h11 X9
              rcases V01.out with hv0 | hv0
              all_goals
                subst hv0
                go_wp2_with (first
                  | (refine wpList_load_arr rfl 68 _ rfl _ Try.underlying68 rfl 10 pgInfo10 x 0 _ _ rfl P9.out (by simp) [.int .i64 (((412 : Nat) : Int) - 401), .map (some b), .slice gp T.gone.length gc, .int .i64 (T.ever + 1), .int .i64 T.root, .map (some b2), .slice gp2 T2.gone.length gc2, .int .i64 (T2.ever + 1), .int .i64 T2.root, .bool true] rfl ?_)
                  | (refine wpList_alloc_z rfl 68 rfl _ pgInfo10z ?_; intro w10 hw10 hb10 hl10; have W10 := hid hw10; have B10 := hid hb10; clear hw10 hb10)
                  | (refine wpList_store_arr rfl 68 _ _ rfl 10 pgInfo10 w9.heap.size 0 68 _ [.int .i64 (((412 : Nat) : Int) - 401), .map (some b), .slice gp T.gone.length gc, .int .i64 (T.ever + 1), .int .i64 T.root, .map (some b2), .slice gp2 T2.gone.length gc2, .int .i64 (T2.ever + 1), .int .i64 T2.root, .bool true] rfl rfl W10.out rfl (by simp) (fun u hu => by simp at hu; rcases hu with rfl | rfl | rfl | rfl | rfl | rfl | rfl | rfl | rfl | rfl <;> rfl) ?_; intro w11 hw11 hc11 hs11; rw [splice_all _ _ (by rfl)] at hw11; have W11 := hid hw11; have C11 := hid hc11; clear hw11 hc11))
                have C911 := hid ((Chg.new B10.out (fun _ => False)).trans C11.out (fun i hi e => by omega) : Chg (fun _ => False) w9 w11)
                obtain ⟨Gy, hY11, hGy⟩ := YO.out w11 w9.heap.size C911.out W11.out (Nat.le_refl _)
                have hxl : x < w9.heap.size := P9.out.lt
                have hgl := XO9.out.lt
                have X11 := hid (XO9.out.chg C911.out (fun _ _ h => h))
                have V11 := hid (V9.out.chg C911.out (fun _ _ h => h))
                have hvl := V9.out.lt
                have GY := hid hGy
                have B11 := hid (B9.out.trans (C911.out.below (fun k hk => hk.elim) B9.out.size))
                have hbs := B9.out.size
                have HGL := hid hgl
                have HVL := hid hvl
                clear W11 C11 C911 B10 W10 hGy hgl hvl
                refine hY11.abort1.mono ?_
                rintro e12 w12 ⟨rfl, hy12, hc12⟩
                have Y12 := hid hy12
                have X12 := hid (X11.out.chg hc12 (fun k hk e => by have := HGL.out k hk; omega))
                have V12 := hid (V11.out.chg hc12 (fun k hk e => by have := HVL.out k hk; omega))
                have B12 := hid (B11.out.trans (hc12.below (fun k hk => by rw [hk]; exact hbs) B11.out.size))
                clear hy12 hc12 X11 V11 B11 hY11
                go_wp2_with fail
                refine X12.out.commit1.mono ?_
                rintro e13 w13 ⟨rfl, hx13, hc13⟩
                have X13 := hid hx13
                have Y13 := hid (Y12.out.chg hc13 (fun k hk e => by
                  rcases GY.out k hk with h | h
                  · exact h.2 e
                  · omega))
                have V13 := hid (V12.out.chg hc13 (fun k hk e => DIS9.out k hk (e ▸ GX.out)))
                have B13 := hid (B12.out.trans (hc13.below (fun k hk => by rw [hk]; exact NEWS.out x (.inr GX.out)) B12.out.size))
                clear hx13 hc13 X12 Y12 V12 B12
                have DX := hid (show Duo w13 q d x 412 F9 G s9 A A false 0 T2 T2 false (MM + 3000 + 6000 * j2) from ⟨V13.out, ⟨X13.out, rfl⟩, DIS9.out⟩)
                have DY := hid (show Duo w13 q d w9.heap.size 412 F9 Gy s9 A A false 0 T T false (MM + 3000 + 6000 * j2) from ⟨V13.out, ⟨Y13.out, rfl⟩, fun k hk hg => by
                  rcases GY.out k hg with h | h
                  · exact DIS9.out k hk h.1
                  · have := HVL.out k hk; omega⟩)
                rcases HA9.out with hA | ⟨hv9, hA⟩
                · subst hA
                  go_wp2_with fail
                  refine (same_any DX.out ⟨by omega, by omega⟩).mono ?_
                  rintro e14 w14 ⟨rfl, hb14⟩
                  have B14 := hid (B13.out.trans (hb14.mono B13.out.size))
                  clear hb14
                  go_wp2_with fail
                  go_ret
                  exact ⟨rfl, B14.out⟩
                · first
                    | (exact absurd hv9 (by decide))
                    | (subst hA
                       clear hv9
                       go_wp2_with fail
                       refine (same_gen DX.out ⟨by omega, by omega⟩).mono ?_
                       rintro e14 w14 ⟨r, rfl, hb14⟩
                       have B14 := hid (B13.out.trans (hb14.mono B13.out.size))
                       have DY14 := hid (DY.out.new' hb14)
                       clear hb14
                       cases r with
                       | true =>
                         go_wp2_with fail
                         go_ret
                         exact ⟨rfl, B14.out⟩
                       | false =>
                         go_wp2_with fail
                         refine (same_any DY14.out ⟨by omega, by omega⟩).mono ?_
                         rintro e15 w15 ⟨rfl, hb15⟩
                         have B15 := hid (B14.out.trans (hb15.mono B14.out.size))
                         clear hb15
                         go_wp2_with fail
                         go_ret
                         exact ⟨rfl, B15.out⟩)
end Go.Proofs.Ytiphekepglihlaa
