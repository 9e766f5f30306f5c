/- triadlaw3.RedoTwice: the walk. -/
import Derived.Test.YtplahohlmiphoaaWalkRedoOps
namespace Go.Proofs.Ytplahohlmiphoaa
open Go.RowKit
set_option linter.unusedVariables false

theorem Rest.stop {n : Nat} {s : DS} {F : List UInt8} (h : Rest n s F) (m : Int) : Rest n { s with stop := m } F := ⟨h.alive, h.since, h.now, h.kept, h.len⟩

/-- once more, behind a crash -/
theorem twice_pure (G : List (Int × List UInt8)) (hG : ¬ G.length = 0 → LOk 420 G) (M : Int) (keep : List Bool) (s : DS) (hs : s = { dNew 420 with stop := M }) :
    (recov 420 (dCrash (cmt 420 s G).1 keep)).2.2 = 0 ∧ (∃ F2, Rest 420 (recov 420 (dCrash (cmt 420 s G).1 keep)).1 F2 ∧ row F2 0 = z512) ∧
    ((cmt 420 s G).2 = 0 → (recov 420 (dCrash (cmt 420 s G).1 keep)).2.1 = 0) ∧
    ((recov 420 (dCrash (cmt 420 s G).1 keep)).2.1 = 0 ∨ (recov 420 (dCrash (cmt 420 s G).1 keep)).2.1 = (G.length : Int)) ∧ (recov 420 (dCrash (cmt 420 s G).1 keep)).1.ops ≤ 3000 := by
  have hr0 : Rest 420 s (List.replicate (420 * 512) 0) := by rw [hs]; exact (rest_new 420).stop M
  have hz : row (List.replicate (420 * 512) 0) 0 = z512 := row_zero (by omega)
  have ho : s.ops = 0 := by rw [hs]; rfl
  have rested : ∀ (c : DS) (F : List UInt8), Rest 420 c F → row F 0 = z512 → c.ops ≤ 2010 → (recov 420 c).2.2 = 0 ∧ (∃ F2, Rest 420 (recov 420 c).1 F2 ∧ row F2 0 = z512) ∧ (recov 420 c).2.1 = 0 ∧ (recov 420 c).1.ops ≤ 3000 := fun c F h1 h2 h3 => by
    rw [recov_rest h1 h2]
    exact ⟨rfl, ⟨F, h1, h2⟩, rfl, by show c.ops ≤ _; omega⟩
  by_cases h0 : G.length = 0
  · obtain rfl : G = [] := List.eq_nil_of_length_eq_zero h0
    rw [cmt_nil]
    obtain ⟨h1, h2, h3, h4⟩ := rested _ _ (hr0.crash keep).1 hz (by show s.ops ≤ _; omega)
    exact ⟨h1, h2, fun _ => h3, .inl h3, h4⟩
  · have lok := hG h0
    have hops := cmt_ops 420 s G (by have := lok.len; omega)
    obtain ⟨h1, _⟩ := com_run lok hr0 hz
    generalize cmt 420 s G = r at *
    have hco : (dCrash r.1 keep).ops ≤ 2010 := by show r.1.ops ≤ _; omega
    rcases h1 with ⟨e0, F, hrF, hpc⟩ | ⟨e13, hcr⟩
    · obtain ⟨h1, h2, h3, h4⟩ := rested _ _ (hrF.crash keep).1 hpc.1 hco
      exact ⟨h1, h2, fun _ => h3, .inl h3, h4⟩
    · obtain ⟨F', hP, hrF, hst⟩ := hcr.crash keep
      generalize dCrash r.1 keep = c at *
      have hno : ¬ r.2 = 0 := by omega
      rcases hP with hP | hP | hP
      · obtain ⟨h1, h2, h3, h4⟩ := rested _ _ hrF hP.1 hco
        exact ⟨h1, h2, fun _ => h3, .inl h3, h4⟩
      · obtain ⟨h1, h2, h3⟩ := rec_run lok (by omega) hrF hP
        have h4 := (h2 (by omega)).1
        rcases h1 with ⟨_, hcnt, F2, hr2, hpc2⟩ | ⟨e, _⟩
        · exact ⟨h4, ⟨F2, hr2, hpc2.1⟩, fun h => absurd h hno, .inr hcnt, by omega⟩
        · omega
      · obtain ⟨h1, h2, h3, h4⟩ := rested _ _ hrF hP.1 hco
        exact ⟨h1, h2, fun _ => h3, .inl h3, h4⟩

set_option maxRecDepth 100000 in
set_option maxHeartbeats 4000000 in
theorem redoTwice_walk (a0 : Option Addr) (len0 cap0 : Nat) (z0 : List (Int × List UInt8)) (a1 : Int) (a2 : Option Addr) (len2 cap2 : Nat) (z2 : List Bool) (w : World) (w0 : IsPutsA w a0 len0 cap0 z0) (w1 : (Lit.int .i64 a1).wf = true) (w2 : IsBools w a2 len2 cap2 z2) :
    Calls Try.prog 8 #[.slice a0 len0 cap0, .int .i64 a1, .slice a2 len2 cap2] w fun e w' => e = .returned (.bool true) ∧ Below w.heap.size w w' := by
  have H0 := hid w0
  have H2 := hid w2
  have hm0 : 0 ≤ a1 % 25 := Int.emod_nonneg _ (by omega)
  have hm1 : a1 % 25 < 25 := Int.emod_lt_of_pos _ (by omega)
  have E25 : Hid (∀ w, Calls Try.prog 11 #[.int .i64 a1, .int .i64 25] w fun e w' => e = .returned (.int .i64 (a1 % 25)) ∧ w = w') := hid (fun w => within3_any a1 25 w (by omega) (by omega))
  clear w0 w1 w2
  generalize a1 % 25 = M at *
  go_enter Try.func8, Try.ntmps8
  go_wp2_with fail
  refine (known3_any _).mono ?_; rintro e1 wk ⟨rfl, hbk⟩
  have BK := hid hbk
  clear hbk
  go_wp2_with fail
  refine (few3_any wk _ _ _ z0 (H0.out.keep BK.out)).mono ?_
  rintro e1 wx ⟨rfl, hw⟩
  subst hw
  generalize hf0 : fewOf z0 = b0
  cases b0 with
  | false =>
    go_wp2_with fail
    go_ret
    exact ⟨rfl, BK.out⟩
  | true =>
    obtain ⟨hl0, hb0⟩ := fewOf_spec hf0
    have HB0 := hid hb0
    clear hf0 hb0
    go_wp2_with fail
    refine (good3_any w _ a0 len0 cap0 z0 H0.out BK.out HB0.out (by omega)).mono ?_
    rintro e1 w3 ⟨gp, gc, gbs, rfl, hpa⟩
    have PA := hid hpa
    have B3 := hid (BK.out.trans (hpa.2.2.2.1.mono BK.out.size))
    clear hpa
    go_wp2_with fail
    refine (dNew_any _ _).mono ?_; rintro e1 w4 ⟨d, rfl, hd, hb4, hl⟩
    rw [show clampN 420 = 420 from by decide] at hd
    have D4 := hid hd
    have B4 := hid (B3.out.trans (hb4.mono B3.out.size))
    have hp3 := PA.out.puts2 (fp := fun k => w3.heap.size ≤ k ∧ k < w4.heap.size) (fun g hg hf => by have := B3.out.size; omega) (fun k hk => .inr hk.1)
    have P4 := hid (hp3.1.chg hp3.2 (Chg.new hb4 _) (fun k h => .inl h))
    have O4 := hid hp3.2
    have SP := hid (goodOf_spec z0)
    have LK : Hid (¬ (goodOf z0).length = 0 → LOk 420 (goodOf z0)) := hid (good_ok z0)
    have hgl : (goodOf z0).length ≤ 8 := SP.out.1
    clear hd hb4 hl hp3 PA HB0
    generalize goodOf z0 = G at *
    go_wp2_with fail
    refine (E25.out _).mono ?_; rintro e1 wx ⟨rfl, hw⟩
    subst hw
    go_wp2_with fail
    refine (dStop_any _ d _ 420 _ (1 + M) D4.out (by omega)).mono ?_
    rintro e1 w5 ⟨rfl, hd5, hc5, hs5⟩
    have TP := hid (twice_pure G LK.out (max (1 + M) 0) z2 _ rfl)
    have OP : Hid (({ dNew 420 with stop := max (1 + M) 0 } : DS).ops = 0) := hid rfl
    generalize ({ dNew 420 with stop := max (1 + M) 0 } : DS) = s5 at *
    have D5 := hid hd5
    have B5 := hid (B4.out.trans (hc5.below (fun k hk => by have := B3.out.size; omega) B4.out.size))
    have P5 := hid (P4.out.chg O4.out hc5 (fun k h => .inl h))
    clear hd5 hc5 hs5 D4 P4
    go_wp2_with fail
    refine (com_any w5 d _ 420 s5 gp gc G D5.out P5.out (fun _ => O4.out) (by omega) (fun q hq => by have := SP.out.2 q hq; omega) (fun q hq => wf_small (by have := SP.out.2 q hq; omega) (by have := SP.out.2 q hq; omega)) (by rw [OP.out]; omega)).mono ?_
    rintro e1 w6 ⟨rfl, fp6, hd6, hc6, hf6⟩
    have D6 := hid hd6
    have B6 := hid (B5.out.trans (hc6.below (fun k hk => by have := B3.out.size; omega) B5.out.size))
    have F6 : Hid (∀ k, fp6 k → w.heap.size ≤ k) := hid (fun k hk => by
      rcases hf6 k hk with h | h
      · have := B3.out.size; omega
      · have := B5.out.size; omega)
    have CO := hid (cmt_ops 420 s5 G (by omega))
    clear hd6 hc6 hf6 D5 P5
    generalize cmt 420 s5 G = r at *
    go_wp2_with fail
    have hkl : z2.length = len2 := H2.out.1
    subst hkl
    refine (dCrash_any w6 d fp6 420 r.1 (.slice a2 z2.length cap2) z2 D6.out (H2.out.2.new B6.out) (fun hz g hg hf => by
      have h1 := Rd.lt H2.out.2 hz (by decide) g hg
      have h2 := F6.out g hf
      omega)).mono ?_
    rintro e1 w7 ⟨rfl, hd7, hc7⟩
    have D7 := hid hd7
    have B7 := hid (B6.out.trans (hc7.below F6.out B6.out.size))
    have HCO : Hid ((dCrash r.1 z2).ops ≤ 2010) := hid (by show r.1.ops ≤ _; have := CO.out; have := OP.out; omega)
    clear hd7 hc7 D6
    generalize dCrash r.1 z2 = c at *
    go_wp2_with fail
    refine (recov_any w7 d fp6 420 c D7.out (by have := HCO.out; omega)).mono ?_
    rintro e1 w8 ⟨rfl, fp8, hd8, hc8, hf8⟩
    have D8 := hid hd8
    have B8 := hid (B7.out.trans (hc8.below F6.out B7.out.size))
    have F8 : Hid (∀ k, fp8 k → w.heap.size ≤ k) := hid (fun k hk => by
      rcases hf8 k hk with h | h
      · exact F6.out k h
      · have := B7.out.size; omega)
    clear hd8 hc8 hf8 D7
    generalize recov 420 c = v at *
    obtain ⟨hv0, ⟨F2, hrest, hz2⟩, hv1, hv2, hvo⟩ := TP.out
    have RE := hid hrest
    have RV := hid (recov_rest hrest hz2)
    have V1 := hid hv1
    have V2 := hid hv2
    rw [hv0]
    clear TP hrest hz2 hv0 hv1 hv2
    go_wp2_with fail
    refine (homes3_any w8 d fp8 420 v.1 D8.out RE.out.alive).mono ?_
    rintro e1 w9 ⟨hvv, rfl, ho9, hb9⟩
    obtain ⟨p9, c9, rfl⟩ := own_shape ho9
    have D9 := hid (D8.out.chg (Chg.new hb9 NoFp) (fun _ _ h => h))
    have B9 := hid (B8.out.trans (hb9.mono B8.out.size))
    have W9 := hid ho9
    have L8 := hid D8.out.lt
    clear ho9 hb9 D8
    go_wp2_with fail
    refine (recov_any w9 d fp8 420 v.1 D9.out (by omega)).mono ?_
    rw [RV.out]
    rintro e1 w10 ⟨rfl, fp10, hd10, hc10, hf10⟩
    have D10 := hid hd10
    have B10 := hid (B9.out.trans (hc10.below F8.out B9.out.size))
    have W10 := hid (own_chg W9.out hc10 (fun g hg hf => by
      have h1 := (W9.out.lt g hg).1
      have h2 := L8.out g hf
      omega))
    clear hd10 hc10 hf10 D9 W9
    have FIN : Hid (∀ w', Below w10.heap.size w10 w' → Below w.heap.size w w') := hid (fun w' hb => B10.out.trans (hb.mono B10.out.size))
    have SM : Hid (∀ (w11 : World) (v11 : Value), w11.ownsRow w10.heap.size 9 1 v11 (420 - 401) ((homesL 420 v.1.now).map sv) → Below w10.heap.size w10 w11 → ∃ p11 c11, v11 = .slice p11 19 c11 ∧
        Calls Try.prog 29 #[.slice p9 (420 - 401) c9, .slice p11 19 c11] w11 fun e w' => e = .returned (.bool true) ∧ Below w11.heap.size w11 w') := hid (fun w11 v11 ho hb => by
      obtain ⟨p11, c11, rfl⟩ := own_shape ho
      refine ⟨p11, c11, rfl, ?_⟩
      have h9 := same3_any w11 p9 p11 (420 - 401) (420 - 401) c9 c11 _ _ ((Rd.of_own W10.out).new hb) (Rd.of_own ho) (by omega) (by omega)
      rw [beq_self_eq_true] at h9
      exact h9)
    have HM := hid (homes3_any w10 d fp10 420 v.1 D10.out RE.out.alive)
    clear D10 W10 RV LK SP O4 B3 B4 B5 B6 B7 B8 B9 H0 H2 OP CO HCO
    by_cases h0 : v.2.1 = 0
    · rw [h0]
      by_cases hr : r.2 = 0
      · rw [hr]
        clear hr h0
        go_wp2_with fail
        refine HM.out.mono ?_
        rintro e1 w11 ⟨v11, rfl, ho, hb⟩
        obtain ⟨p11, c11, rfl, hsame⟩ := SM.out w11 v11 ho hb
        have SA := hid hsame
        have B11 := hid hb
        clear ho hb hsame
        go_wp2_with fail
        refine SA.out.mono ?_
        rintro e1 w12 ⟨rfl, hb⟩
        have B12 := hid (FIN.out w12 (B11.out.trans (hb.mono B11.out.size)))
        clear hb
        go_wp2_with fail
        go_ret
        exact ⟨rfl, B12.out⟩
      · have hr0 : (r.2 == 0) = false := by rw [beq_eq_false_iff_ne]; exact hr
        have hr1 : (r.2 != 0) = true := by simpa using hr
        clear hr h0
        go_wp2_with fail
        refine HM.out.mono ?_
        rintro e1 w11 ⟨v11, rfl, ho, hb⟩
        obtain ⟨p11, c11, rfl, hsame⟩ := SM.out w11 v11 ho hb
        have SA := hid hsame
        have B11 := hid hb
        clear ho hb hsame
        go_wp2_with fail
        refine SA.out.mono ?_
        rintro e1 w12 ⟨rfl, hb⟩
        have B12 := hid (FIN.out w12 (B11.out.trans (hb.mono B11.out.size)))
        clear hb
        go_wp2_with fail
        go_ret
        exact ⟨rfl, B12.out⟩
    · have hc : v.2.1 = (G.length : Int) := (V2.out).resolve_left h0
      have hr0 : (r.2 == 0) = false := by
        rw [beq_eq_false_iff_ne]
        exact fun h => h0 (V1.out h)
      have hr1 : (r.2 != 0) = true := by simpa using (fun h => h0 (V1.out h) : ¬ r.2 = 0)
      rw [hc]
      have hg0 : ((G.length : Int) == 0) = false := by rw [beq_eq_false_iff_ne]; omega
      clear h0 hc
      go_wp2_with fail
      refine HM.out.mono ?_
      rintro e1 w11 ⟨v11, rfl, ho, hb⟩
      obtain ⟨p11, c11, rfl, hsame⟩ := SM.out w11 v11 ho hb
      have SA := hid hsame
      have B11 := hid hb
      clear ho hb hsame
      go_wp2_with fail
      refine SA.out.mono ?_
      rintro e1 w12 ⟨rfl, hb⟩
      have B12 := hid (FIN.out w12 (B11.out.trans (hb.mono B11.out.size)))
      clear hb
      go_wp2_with fail
      go_ret
      exact ⟨rfl, B12.out⟩
end Go.Proofs.Ytplahohlmiphoaa
