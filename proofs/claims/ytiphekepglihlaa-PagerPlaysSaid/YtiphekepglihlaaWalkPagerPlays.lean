/- triadlaw4.PagerPlays: the walk. -/
import Derived.Test.YtiphekepglihlaaFew4
namespace Go.Proofs.Ytiphekepglihlaa
open Go.RowKit Go.Maps
set_option linter.unusedVariables false

set_option maxRecDepth 100000 in
set_option maxHeartbeats 8000000 in
theorem pagerPlays_walk (a0 : Int) (a1 : Option Addr) (len1 cap1 : Nat) (z1 : List Act4) (w : World) (w0 : (Lit.int .i64 a0).wf = true) (w1 : IsActs4 w a1 len1 cap1 z1) :
    Calls Try.prog 7 #[.int .i64 a0, .slice a1 len1 cap1] w fun e w' => e = .returned (.bool true) ∧ Below w.heap.size w w' := by
  have Z := hid w1
  have hlm := w1.2.1
  have hm0 : 0 ≤ a0 % 12 := Int.emod_nonneg _ (by omega)
  have hm1 : a0 % 12 < 12 := Int.emod_lt_of_pos _ (by omega)
  have WI := hid (fun w => within_any w a0 12 (by omega) (by omega))
  obtain ⟨n, hn⟩ : ∃ n : Nat, 403 + a0 % 12 = (n : Int) := ⟨(403 + a0 % 12).toNat, by omega⟩
  have hn0 : 403 ≤ n := by omega
  have hn1 : n ≤ 414 := by omega
  have hw1 : IntKind.i64.wrap (403 + a0 % 12) = (n : Int) := by rw [hn]; exact i64_small (by omega) (by omega)
  clear w0 w1 hm0 hm1 hn
  go_enter Try.func7, Try.ntmps7
  go_wp2_with fail
  refine (known4_any _).mono ?_
  rintro e1 w1 ⟨rfl, hb⟩
  have B1 := hid hb
  have Z1 : Hid (IsActs4 w1 a1 len1 cap1 z1) := hid ⟨Z.out.1, Z.out.2.1, fun i hi => by
    obtain ⟨ab, ao, d, h1, h2, h3⟩ := Z.out.2.2 i hi
    obtain ⟨pb, cb, k0, k1, k2, hbs, _, hwf⟩ := h3.keep hb
    obtain ⟨_, _, _, _, _, _, hwf1, hwf2⟩ := h3
    exact ⟨ab, ao, d, h1, h2, pb, cb, k0, k1, k2, hbs, hwf1, hwf2⟩⟩
  clear hb
  go_wp2_with fail
  refine (few4_any w1 a1 len1 cap1 z1 Z1.out).mono ?_
  rintro e2 wx ⟨rfl, hw⟩
  subst hw
  rcases hf : few4 z1 with _ | _
  · go_wp2_with fail
    go_ret
    exact ⟨rfl, B1.out⟩
  · obtain ⟨hfb, hfl⟩ := few4_spec hf
    have hl60 : len1 ≤ 60 := by have := Z.out.1; omega
    have FB := hid hfb
    clear hf hfb hfl Z1
    go_wp2_with fail
    refine (WI.out _).mono ?_
    rintro e2 wy ⟨rfl, hw⟩
    subst hw
    generalize a0 % 12 = M0 at *
    clear WI
    go_wp2_with fail
    refine (dNew_any _ n).mono ?_
    rintro e2 w2 ⟨d, rfl, hd2, hb2, hd⟩
    rw [show clampN (n : Int) = n by unfold clampN; omega] at hd2
    have D2 := hid hd2
    have B2 := hid (B1.out.trans (hb2.mono B1.out.size))
    have hfp : Hid (∀ k, wy.heap.size ≤ k ∧ k < w2.heap.size → w.heap.size ≤ k) := hid (fun k hk => Nat.le_trans B1.out.size hk.1)
    clear hd2 hb2
    go_wp2_with fail
    refine (openNew w2 n (by omega) (by omega) d _ D2.out).mono ?_
    rintro e3 w3 ⟨p, F, rfl, hv, hc, hp, hF⟩
    have V3 := hid hv
    have B3 := hid (B2.out.trans (hc.below hfp.out B2.out.size))
    have HF : Hid (∀ k, F k → w.heap.size ≤ k) := hid (fun k hk => (hF k hk).elim (hfp.out k) (fun h => Nat.le_trans B2.out.size h))
    clear hv hc hF D2 hp
    go_wp2_with fail
    refine (rfNew_any w3 n (by omega) (by omega)).mono ?_
    rintro e4 w4 ⟨x, rfl, hx, hb4⟩
    have DU : Hid (Duo w4 p d x n F (fun k => w3.heap.size ≤ k ∧ k < w4.heap.size) (dNew n) as0 as0 false 0 as0 as0 false 0) := hid ⟨V3.out.new' hb4, ⟨hx, rfl⟩, fun k hk hg => by have := V3.out.lt k hk; omega⟩
    have B4 := hid (B3.out.trans (hb4.mono B3.out.size))
    have FG : Hid (∀ k, F k ∨ (w3.heap.size ≤ k ∧ k < w4.heap.size) → w.heap.size ≤ k) := hid (fun k hk => hk.elim (HF.out k) (fun h => Nat.le_trans B3.out.size h.1))
    clear hx hb4 V3 HF
    go_wp2_with fail
    go_loopw [6, 9] (fun pv i wr => ∃ (j p : Nat) (F G : Nat → Prop) (s : DS) (S T : AS) (op : Bool) (N : Nat), j ≤ len1 ∧ pv = .pointer (some ⟨p, 0, none⟩) ∧ i = .int .i64 j ∧ Duo wr p d x n F G s S T op N S T op (6000 * j) ∧ N ≤ j ∧ s.stop < 1 ∧ s.ops ≤ 2010 * j ∧ (op = false → T = S) ∧ Below w.heap.size w wr ∧ ∀ k, F k ∨ G k → w.heap.size ≤ k) (fun _ i _ => len1 + 1 - (Go.RowKit.intOf i).toNat)
    case atStart => exact ⟨0, p, F, _, _, _, _, _, _, Nat.zero_le _, rfl, rfl, DU.out, Nat.le_refl _, (by show (0 : Int) < 1; decide), (by show (0 : Int) ≤ 2010 * ((0 : Nat) : Int); decide), fun _ => rfl, B4.out, FG.out⟩
    case round =>
      obtain ⟨j, p, F, G, s, S, T, op, N, hj, rfl, rfl, hdu, hN, hst, hops, hTS, hbw, hfg⟩ := hrel
      have D5 := hid hdu
      have B5 := hid hbw
      have FG5 := hid hfg
      have TS := hid hTS
      have OPS : Hid (s.ops ≤ 2010 * (j : Int)) := hid hops
      have ST := hid hst
      clear hdu hbw hfg hTS hops hst DU FG B4
      by_cases hlt : j < len1
      · obtain ⟨ab, ao, q, rfl, hq, hat⟩ := Z.out.2.2 j hlt
        obtain ⟨pb, cb, k0, k1, k2, hbs, hbl, hwf⟩ := hat.keep B5.out
        have BS := hid hbs
        have HBL := hid hbl
        have hq600 := FB.out q (List.mem_of_getElem? hq)
        have HQ := hid hq
        have W15 := hid (fun w => within_any w q.kind 15 (by omega) (by omega))
        clear hbs hbl hat hq
        go_wp2_with fail
        refine (W15.out _).mono ?_
        rintro e5 wz ⟨rfl, hw⟩
        subst hw
        by_cases h14 : q.kind % 15 = 14
        · rw [h14]
          obtain ⟨fp, was, hds, hfpF, hh, hS⟩ := D5.out.pg.dsk
          clear h14 W15
          go_wp2_with fail
          refine (PgV.open hds hh hS (by have := OPS.out; omega)).mono ?_
          rintro e6 w6 ⟨p6, F6, rfl, hv6, hc6, hp6, hF6⟩
          have XG6 := hid (D5.out.rf.chg hc6 (fun k hk hf => D5.out.dis k (hfpF k hf) hk))
          have V6 := hid hv6
          have B6 := hid (B5.out.trans (hc6.below (fun k hk => FG5.out k (.inl (hfpF k hk))) B5.out.size))
          have HF6 : Hid (∀ k, F6 k → F k ∨ wz.heap.size ≤ k) := hid (fun k hk => (hF6 k hk).imp (hfpF k) id)
          have hz6 := hc6.size
          clear hv6 hc6 hp6 hF6 hds hfpF hh hS
          go_wp2_with fail
          refine XG6.out.abort.mono ?_
          rintro e7 w7 ⟨rfl, hx7⟩
          have DU6 : Duo w6 p6 d x n F6 G s S S false 0 S T op (6000 * j) := ⟨V6.out, XG6.out, fun k hk hg => by
            rcases HF6.out k hk with h | h
            · exact D5.out.dis k h hg
            · have := D5.out.rf.lt k hg; omega⟩
          obtain ⟨F8, G8, N8, d8, n8, c8, f8⟩ := DU6.right hx7
          have D8 := hid d8
          have B8 := hid (B6.out.trans (c8.below (fun k hk => hk.elim (fun h => (HF6.out k h).elim (fun h => FG5.out k (.inl h)) (fun h => Nat.le_trans B5.out.size h)) (fun h => FG5.out k (.inr h))) B6.out.size))
          have FG8 : Hid (∀ k, F8 k ∨ G8 k → w.heap.size ≤ k) := hid (fun k hk => (f8 k hk).elim (fun h => h.elim (fun h => (HF6.out k h).elim (fun h => FG5.out k (.inl h)) (fun h => Nat.le_trans B5.out.size h)) (fun h => FG5.out k (.inr h))) (fun h => Nat.le_trans B6.out.size h))
          have hN8 : N8 ≤ j + 1 := by omega
          clear d8 n8 c8 f8 hx7 DU6 XG6 V6
          go_wp2_with fail
          refine (same_any D8.out ⟨hn0, by omega⟩).mono ?_
          rintro e9 w9 ⟨rfl, hb9⟩
          have D9 := hid (D8.out.new' hb9)
          have B9 := hid (B8.out.trans (hb9.mono B8.out.size))
          clear hb9
          go_wp2_with fail
          go_roundw
          case rel => exact ⟨j + 1, p6, F8, G8, s, S, S, false, N8, by omega, rfl, by go_num, ⟨D9.out.pg, D9.out.rf.more (by omega), D9.out.dis⟩, hN8, ST.out, by have := OPS.out; push_cast; omega, fun _ => rfl, B9.out, FG8.out⟩
          case measure => simp [Go.RowKit.intOf]; omega
        · have h14b : (q.kind % 15 == 14) = false := by simpa using h14
          have DO := hid (do_any D5.out ⟨hn0, by omega⟩ (by omega) (by omega) q.kind q.num pb cb q.b BS.out hq600 (fun hz g hg hf => by have h1 := HBL.out hz g hg; have h2 := FG5.out g hf; omega) hwf _ rfl (fun _ _ => ⟨TS.out, by have := OPS.out; omega, ST.out⟩))
          go_wp2_with fail
          refine DO.out.mono ?_
          rintro e6 w6 ⟨r, s6, rfl, hr, hdt, hst6, hops6, _⟩
          have hrt : r = true := by first | exact hr rfl rfl | exact hr trivial trivial
          subst hrt
          obtain ⟨F8, G8, N8, d8, n8, c8, f8⟩ := hdt
          have SH := hid (actP_shut (n := n) (m := q.kind % 14) (at_ := q.num % ((n : Int) - 401 + 2) - 1) (num := q.num) (b := q.b) (S := S) (T := T) TS.out)
          generalize actP n (q.kind % 14) (q.num % ((n : Int) - 401 + 2) - 1) q.num q.b S T op = a9 at *
          obtain ⟨S9, T9, op9⟩ := a9
          have D8 := hid d8
          have B8 := hid (B5.out.trans (c8.below (fun k hk => FG5.out k hk) B5.out.size))
          have FG8 : Hid (∀ k, F8 k ∨ G8 k → w.heap.size ≤ k) := hid (fun k hk => (f8 k hk).elim (fun h => FG5.out k h) (fun h => Nat.le_trans B5.out.size h))
          have hN8 : N8 ≤ j + 1 := by omega
          have OPS6 := hid hops6
          have ST6 := hid hst6
          clear d8 n8 c8 f8 hr DO hst6 hops6
          go_wp2_with fail
          refine (same_any D8.out ⟨hn0, by omega⟩).mono ?_
          rintro e9 w9 ⟨rfl, hb9⟩
          have D9 := hid (D8.out.new' hb9)
          have B9 := hid (B8.out.trans (hb9.mono B8.out.size))
          clear hb9
          go_wp2_with fail
          go_roundw
          case rel => exact ⟨j + 1, p, F8, G8, s6, S9, T9, op9, N8, by omega, rfl, by go_num, ⟨D9.out.pg, D9.out.rf.more (by omega), D9.out.dis⟩, hN8, by have h1 := ST.out; have h2 := ST6.out; omega, by have h1 := OPS.out; have h2 := OPS6.out; push_cast; omega, SH.out, B9.out, FG8.out⟩
          case measure => simp [Go.RowKit.intOf]; omega
      · go_wp2_with fail
        go_ret
        exact ⟨rfl, B5.out⟩
end Go.Proofs.Ytiphekepglihlaa
