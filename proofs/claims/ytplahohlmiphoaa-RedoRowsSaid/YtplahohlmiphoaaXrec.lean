/- triadref3.Recover. -/
import Derived.Test.YtplahohlmiphoaaXdo3
import Derived.Test.YtplahohlmiphoaaRefCodeC
namespace Go.Proofs.Ytplahohlmiphoaa
open Go.RowKit
set_option linter.unusedVariables false

theorem homesOk_take {n : Nat} {ls : List (Int × List UInt8)} {q : Int × List UInt8} (hq : q ∈ ls) (h : ¬ (401 ≤ q.1 ∧ q.1 < (n : Int))) : homesOk n ls = false := by
  unfold homesOk
  rw [List.all_eq_false]
  exact ⟨q, hq, by simpa using h⟩

set_option maxRecDepth 100000 in
set_option maxHeartbeats 8000000 in
theorem xrec_any (w : World) (r : Nat) (fp : Nat → Prop) (n : Nat) (s : DS) (h : XDk w r fp n s) (ho : s.ops + 3000 ≤ 1000000) :
    Calls Try.prog 26 #[.pointer (some ⟨r, 0, none⟩)] w fun e w' => e = .returned (.tuple #[.int .i64 (recov n s).2.1, .int .i64 (recov n s).2.2]) ∧ XTo w r fp n (recov n s).1 w' := by
  have H := hid h
  have hok : DOk n s := by
    obtain ⟨_, _, _, _, _, _, _, _, _, _, _, _, _, _, _, h9, _⟩ := h
    exact h9
  have OK := hid hok
  have HLT : Hid (∀ k, fp k → k < w.heap.size) := hid (by
    obtain ⟨_, _, _, _, _, _, _, _, _, _, _, _, _, _, h9, _⟩ := h
    exact h9)
  clear h hok
  have fin : ∀ (s' : DS) (w' : World), Below w.heap.size w w' → XTo w r fp n s w' := fun s' w' hb => ⟨fp, H.out.chg (Chg.new hb NoFp) (fun _ _ h => h), Chg.new hb fp, fun k h => .inl h⟩
  have FIN := hid fin
  clear fin
  rcases Bool.eq_false_or_eq_true s.dead with hdead | hdead
  · have HE : Hid (recov n s = (s, 0, 13)) := hid (by unfold recov; rw [if_pos hdead])
    have h9 := xRead_err w r fp n s 0 H.out (.inl hdead)
    rw [if_pos hdead] at h9
    have HC9 := hid h9
    clear h9 hdead
    go_enter Try.func26, Try.ntmps26
    go_wp2_with fail
    refine HC9.out.mono ?_
    rintro e1 w1 ⟨rfl, hw⟩
    subst hw
    go_wp2_with fail
    go_ret2
    rw [HE.out]
    exact ⟨rfl, FIN.out s _ (Below.refl _ _)⟩
  · have hnd : ¬ s.dead = true := by rw [hdead]; decide
    have HDD := hid hdead
    have hcb := cntOf_bd n (row s.now 0)
    have HE0 : Hid (∀ N, cntOf n (row s.now 0) = N → recov n s = if N = 0 then (s, 0, 0) else
      if homesOk n (logOf s.now N.toNat) = true then
        if (runStps n s (finSteps (logOf s.now N.toNat))).2 = 0 then ((runStps n s (finSteps (logOf s.now N.toNat))).1, N, 0)
        else ((runStps n s (finSteps (logOf s.now N.toNat))).1, 0, (runStps n s (finSteps (logOf s.now N.toNat))).2)
      else (s, 0, 9)) := hid (fun N hN => by subst hN; unfold recov; rw [if_neg hnd])
    have hn := OK.out.n1
    have HR := hid (xRead_ok w r fp n s 0 H.out hdead hn)
    have HL := hid (row_length OK.out.now hn)
    have HCN : Hid (cntOf n (row s.now 0) = if ((row s.now 0).take 8 == markB) = true ∧ 1 ≤ headN (row s.now 0) ∧ headN (row s.now 0) ≤ 400 ∧ headN (row s.now 0) < (n : Int) then headN (row s.now 0) else 0) := hid rfl
    clear hdead hnd
    generalize cntOf n (row s.now 0) = N at *
    have HE := hid (HE0.out N rfl)
    clear HE0
    generalize row s.now 0 = R at *
    go_enter Try.func26, Try.ntmps26
    go_wp2_with fail
    refine HR.out.mono ?_
    rintro e1 w1 ⟨p, c, rfl, hbs, hb1⟩
    have BS := hid hbs
    have B1 := hid hb1
    clear hbs hb1 HR
    go_wp2_with (refine wpList_slice_rd rfl 26 _ _ _ rfl 5 1 Try.underlying26 infoU8' _ 512 (bv R) rfl ?hrd 8 512 ⟨_, _, rfl, by decide, rfl⟩ rfl (by omega) (by omega) ?_; (case hrd => have h := BS.out; unfold Bs at h; rw [HL.out] at h; exact h); intro p2 c2 hrd2 hob2; have R2 := hid hrd2; clear hrd2 hob2)
    have hb2 : Bs w1 (.slice p2 504 c2) (R.drop 8) := by
      have h : Rd w1 1 (.slice p2 504 c2) 504 (((bv R).drop 8).take 504) := R2.out
      rw [bv_drop, bv_take, List.take_of_length_le (by simp [HL.out])] at h
      have hl : (R.drop 8).length = 504 := by simp [HL.out]
      unfold Bs
      rw [hl]; exact h
    have HB2 := hid hb2
    clear hb2
    refine (xcNew_any _ _ w1 HB2.out (by simp [HL.out])).mono ?_
    rintro e1 w3 ⟨r3, rfl, hb3, hr3, ob, hob, hrdr⟩
    have B3 := hid (B1.out.trans (hb3.mono B1.out.size))
    have RD := hid hrdr
    have HB13 := hid hb3
    have R13 := hid hr3
    have R3 : Hid (w.heap.size ≤ r3) := hid (Nat.le_trans B1.out.size hr3)
    have BS3 := hid (BS.out.new hb3)
    clear hob hr3 hb3 hrdr
    go_wp2_with fail
    refine (xcInt_any r3 ob _ 0 w3 RD.out (by omega) (by omega)).mono ?_
    rintro e1 w4 ⟨rfl, hch, _⟩
    have B4 := hid (B3.out.trans (hch.below (B := w.heap.size) (fun k hk => by rw [hk]; exact R3.out) B3.out.size))
    have hhn : wrap64 (num (tkGot (R.drop 8) 0 8) : Int) = headN R := by
      unfold headN tkGot
      rw [if_neg (by decide), if_neg (by simp [HL.out])]
    rw [hhn]
    have B4w : Hid (Below w1.heap.size w1 w4) := hid ((HB13.out).trans (hch.below (B := w1.heap.size) (fun k hk => by rw [hk]; exact R13.out) HB13.out.size))
    have BS4 := hid (BS.out.new B4w.out)
    have BS5 : Hid (Rd w4 1 (.slice p 512 c) 512 (bv R)) := hid (by have h := BS4.out; unfold Bs at h; rw [HL.out] at h; exact h)
    have D4 := hid (H.out.chg (Chg.new B4.out NoFp) (fun _ _ h => h))
    have HSL : Hid (∀ p5 c5, Rd w4 1 (.slice p5 8 c5) (8 - 0) (((bv R).drop (0 * 1)).take ((8 - 0) * 1)) → Bs w4 (.slice p5 8 c5) (R.take 8)) := hid (fun p5 c5 hrd5 => by
      have h : Rd w4 1 (.slice p5 8 c5) 8 (((bv R).drop 0).take 8) := hrd5
      rw [List.drop_zero, bv_take] at h
      unfold Bs
      rw [show (R.take 8).length = 8 by simp [HL.out]]
      exact h)
    clear hch hhn
    by_cases hm : R.take 8 = markB
    · rw [hm] at HSL
      have HM := hid hm
      clear hm
      have HC : Hid (N = if 1 ≤ headN R ∧ headN R ≤ 400 ∧ headN R < (n : Int) then headN R else 0) := hid (by rw [HCN.out, HM.out]; simp)
      generalize headN R = M at *
      by_cases h1 : M < 1
      · have hd1 : decide (M < 1) = true := by simpa using h1
        have HN : Hid (recov n s = (s, 0, 0)) := hid (by rw [HE.out, if_pos (show N = 0 by rw [HC.out, if_neg (by omega)])])
        clear h1 hcb
        go_wp2_with (first
            | (refine wpList_slice_rd rfl 26 _ _ _ rfl 5 1 Try.underlying26 infoU8' _ 512 (bv R) rfl ?hrd 0 8 rfl ⟨_, _, rfl, by decide, rfl⟩ (by omega) (by omega) ?_; (case hrd => exact BS5.out); intro p5 c5 hrd5 hob5; (have R5 := hid (HSL.out p5 c5 hrd5)); clear hrd5 hob5)
            | (refine wpList_bytes_str rfl 26 9 _ rfl 5 Try.underlying26 Try.underlying5 Try.underlying9 _ markB rfl R5.out ?_))
        go_ret2
        rw [HN.out]
        exact ⟨rfl, FIN.out s _ B4.out⟩
      · have hd1 : decide (M < 1) = false := by simpa using h1
        by_cases h2 : 400 < M
        · have hd2 : decide (400 < M) = true := by simpa using h2
          have HN : Hid (recov n s = (s, 0, 0)) := hid (by rw [HE.out, if_pos (show N = 0 by rw [HC.out, if_neg (by omega)])])
          clear h1 h2 hcb
          go_wp2_with (first
            | (refine wpList_slice_rd rfl 26 _ _ _ rfl 5 1 Try.underlying26 infoU8' _ 512 (bv R) rfl ?hrd 0 8 rfl ⟨_, _, rfl, by decide, rfl⟩ (by omega) (by omega) ?_; (case hrd => exact BS5.out); intro p5 c5 hrd5 hob5; (have R5 := hid (HSL.out p5 c5 hrd5)); clear hrd5 hob5)
            | (refine wpList_bytes_str rfl 26 9 _ rfl 5 Try.underlying26 Try.underlying5 Try.underlying9 _ markB rfl R5.out ?_))
          go_ret2
          rw [HN.out]
          exact ⟨rfl, FIN.out s _ B4.out⟩
        · have hd2 : decide (400 < M) = false := by simpa using h2
          go_wp2_with (first
            | (refine wpList_slice_rd rfl 26 _ _ _ rfl 5 1 Try.underlying26 infoU8' _ 512 (bv R) rfl ?hrd 0 8 rfl ⟨_, _, rfl, by decide, rfl⟩ (by omega) (by omega) ?_; (case hrd => exact BS5.out); intro p5 c5 hrd5 hob5; (have R5 := hid (HSL.out p5 c5 hrd5)); clear hrd5 hob5)
            | (refine wpList_bytes_str rfl 26 9 _ rfl 5 Try.underlying26 Try.underlying5 Try.underlying9 _ markB rfl R5.out ?_))
          refine (xSize_any w4 r fp n s D4.out).mono ?_
          rintro e1 wz ⟨rfl, hw⟩
          subst hw
          by_cases h3 : (n : Int) ≤ M
          · have hd3 : decide ((n : Int) ≤ M) = true := by simpa using h3
            have HN : Hid (recov n s = (s, 0, 0)) := hid (by rw [HE.out, if_pos (show N = 0 by rw [HC.out, if_neg (by omega)])])
            clear h1 h2 h3 hcb
            go_wp2_with fail
            go_ret2
            rw [HN.out]
            exact ⟨rfl, FIN.out s _ B4.out⟩
          · have hd3 : decide ((n : Int) ≤ M) = false := by simpa using h3
            have hNM : N = M := by rw [HC.out, if_pos (by omega)]
            obtain ⟨m, hMm⟩ : ∃ m : Nat, M = (m : Int) := ⟨M.toNat, by omega⟩
            subst hNM
            subst hMm
            have hmn : m < n ∧ m ≤ 400 ∧ 1 ≤ m := by omega
            have HE1 := hid HE.out
            rw [if_neg (by omega), Int.toNat_natCast] at HE1
            clear h1 h2 h3 hcb HC HE HCN HB2 RD BS3 BS4 BS5 HSL R2
            obtain ⟨hmn1, hmn2, hmn3⟩ := hmn
            have hd4 : decide (n ≤ m) = false := by simp; omega
            go_wp2_with fail
            clear hd4
            obtain ⟨w4', hw4⟩ : ∃ w', w' = w4 := ⟨_, rfl⟩
            subst hw4
            have P0 : Hid (PutsAt w.heap.size (fun g => w.heap.size ≤ g) (logOf s.now 0) [] w w4' (.slice none 0 0)) := hid (PutsAt.start B4.out B4.out.size)
            go_loopw [7, 8] (fun v i wr => ∃ (j : Nat) (bs : List Value), j ≤ m ∧ i = .int .i64 (1 + (j : Int)) ∧ PutsAt w.heap.size (fun g => w.heap.size ≤ g) (logOf s.now j) bs w wr v ∧ ∀ q ∈ logOf s.now j, 401 ≤ q.1 ∧ q.1 < (n : Int)) (fun _ i _ => m + 2 - (intOf i).toNat)
            case atStart => exact ⟨0, [], Nat.zero_le _, by simp, P0.out, fun q hq => by simp [logOf] at hq⟩
            case round =>
              obtain ⟨j, bs, hj, rfl, hat, hho⟩ := hrel
              have PA := hid hat
              have HO := hid hho
              obtain ⟨sp, sc, hsh⟩ := hat.shape
              rw [logOf_length] at hsh
              subst hsh
              clear hat P0 hho
              by_cases hlt : j < m
              · have hd : decide (1 + (j : Int) ≤ (m : Int)) = true := by simp; omega
                go_wp2_with fail
                have hrd := xRead_own wr r fp n s (1 + j) (H.out.chg (Chg.new PA.out.2.2.2.1 NoFp) (fun _ _ h => h)) HDD.out (by omega)
                rw [show (((1 + j : Nat) : Int)) = 1 + (j : Int) by omega] at hrd
                refine hrd.mono ?_
                rintro e1 w2 ⟨p6, c6, rfl, hbs, hb2, hfr⟩
                have HL6 := hid (row_length OK.out.now (show 1 + j < n by omega))
                have P2 := hid (PA.out.new hb2)
                have BK := hid hbs
                have B2 := hid hb2
                have FR := hid hfr
                clear hrd hbs hb2 hfr
                go_wp2_with fail
                refine (xcNew_any _ _ w2 BK.out (by rw [HL6.out]; omega)).mono ?_
                rintro e1 w3 ⟨r4, rfl, hb3, hr3, ob, hob, hrdr⟩
                have P3 := hid (P2.out.new hb3)
                have RD := hid hrdr
                have R4 : Hid (w2.heap.size ≤ r4) := hid hr3
                have B3 : Hid (Below w2.heap.size w2 w3) := hid hb3
                clear hob hr3 hb3 hrdr
                go_wp2_with fail
                refine (xcInt_any r4 ob _ 0 w3 RD.out (by omega) (by omega)).mono ?_
                rintro e1 w5 ⟨rfl, hch, _⟩
                have hq1 : wrap64 (num (tkGot (row s.now (1 + j)) 0 8) : Int) = (logRow s.now j).1 := by
                  unfold logRow tkGot
                  rw [if_neg (by decide), if_neg (by simp [HL6.out])]
                rw [hq1]
                have hq2 : (logRow s.now j).2 = (row s.now (1 + j)).drop 8 := rfl
                have B5 : Hid (Below w2.heap.size w2 w5) := hid (B3.out.trans (hch.below (B := w2.heap.size) (fun k hk => by rw [hk]; exact R4.out) B3.out.size))
                have P5 := hid (P2.out.new B5.out)
                have K5 : Hid (Rd w5 1 (.slice p6 512 c6) 512 (bv (row s.now (1 + j)))) := hid (by have h := BK.out.new B5.out; unfold Bs at h; rw [HL6.out] at h; exact h)
                have D5 := hid (H.out.chg (Chg.new P5.out.2.2.2.1 NoFp) (fun _ _ h => h))
                have HSL : Hid (∀ p7 c7, Rd w5 1 (.slice p7 504 c7) (512 - 8) (((bv (row s.now (1 + j))).drop (8 * 1)).take ((512 - 8) * 1)) → Bs w5 (.slice p7 504 c7) (logRow s.now j).2) := hid (fun p7 c7 hrd7 => by
                  have h : Rd w5 1 (.slice p7 504 c7) 504 (((bv (row s.now (1 + j))).drop 8).take 504) := hrd7
                  rw [bv_drop, bv_take, List.take_of_length_le (by simp [HL6.out])] at h
                  rw [hq2]
                  unfold Bs
                  rw [show ((row s.now (1 + j)).drop 8).length = 504 by simp [HL6.out]]
                  exact h)
                have HIN : Hid (logRow s.now j ∈ logOf s.now m) := hid (List.mem_of_getElem? (logOf_get hlt))
                have HNX := hid (logOf_succ s.now j)
                clear hch hq1 hq2
                generalize hqq : logRow s.now j = q at *
                clear hqq
                by_cases h1 : q.1 < 401
                · have hd1 : decide (q.1 < 401) = true := by simpa using h1
                  have HN : Hid (recov n s = (s, 0, 9)) := hid (by rw [HE1.out, if_neg (by rw [homesOk_take (n := n) HIN.out (by omega)]; decide)])
                  clear h1
                  go_wp2_with fail
                  go_ret2
                  rw [HN.out]
                  exact ⟨rfl, FIN.out s _ P5.out.2.2.2.1⟩
                · have hd1 : decide (q.1 < 401) = false := by simpa using h1
                  go_wp2_with fail
                  refine (xSize_any w5 r fp n s D5.out).mono ?_
                  rintro e1 wz ⟨rfl, hw⟩
                  subst hw
                  by_cases h2 : (n : Int) ≤ q.1
                  · have hd2 : decide ((n : Int) ≤ q.1) = true := by simpa using h2
                    have HN : Hid (recov n s = (s, 0, 9)) := hid (by rw [HE1.out, if_neg (by rw [homesOk_take (n := n) HIN.out (by omega)]; decide)])
                    clear h1 h2
                    go_wp2_with fail
                    go_ret2
                    rw [HN.out]
                    exact ⟨rfl, FIN.out s _ P5.out.2.2.2.1⟩
                  · have hd2 : decide ((n : Int) ≤ q.1) = false := by simpa using h2
                    have HQB : Hid (401 ≤ q.1 ∧ q.1 < (n : Int)) := hid ⟨by omega, by omega⟩
                    clear h1 h2
                    go_wp2_with (first
                      | (refine wpList_slice_rd rfl 26 _ _ _ rfl 5 1 Try.underlying26 infoU8' _ 512 (bv (row s.now (1 + j))) rfl K5.out 8 512 ⟨_, _, rfl, by decide, rfl⟩ rfl (by omega) (by omega) ?_; intro p7 c7 hrd7 hob7; (have V7 := hid (HSL.out p7 c7 hrd7)); (have O7 := hid hob7); clear hrd7 hob7)
                      | (at_builtin; refine wp_keep ?_))
                    refine hid ?_
                    have HG : Hid (0 < q.2.length → ∀ g', Value.ownBlock (.slice p7 504 c7) = some g' → w.heap.size ≤ g' ∧ Value.ownBlock (.slice sp j sc) ≠ some g') := hid (fun _ g' hg' => by
                      have e : Value.ownBlock (.slice p7 504 c7) = Value.ownBlock (.slice p6 512 c6) := O7.out
                      rw [e] at hg'
                      have h9 := FR.out g' hg'
                      have h1 := PA.out.2.2.2.2
                      refine ⟨by omega, fun h3 => ?_⟩
                      have := (PA.out.1.lt g' h3).2
                      omega)
                    refine wpList_append_put (q := q) P2.out B5.out V7.out HG.out rfl _ _ rfl rfl rfl rfl (by rw [logOf_length]; omega) ?_
                    intro p' c' w7 hp7
                    have P7 : Hid (PutsAt w.heap.size (fun g => w.heap.size ≤ g) (logOf s.now (j + 1)) (bs ++ [.slice p7 504 c7]) w w7 (.slice p' (j + 1) c')) := hid (by
                      rw [logOf_length] at hp7
                      rw [HNX.out]
                      exact hp7)
                    clear hp7
                    rw [logOf_length]
                    have hwj : IntKind.i64.wrap (1 + (j : Int) + 1) = 1 + (j : Int) + 1 := by simp [IntKind.wrap, IntKind.bits, IntKind.signed]; omega
                    go_wp2_with fail
                    go_roundw
                    case rel => exact ⟨j + 1, _, by omega, by go_num, P7.out, fun q' hq' => by
                      rw [HNX.out] at hq'
                      rcases List.mem_append.1 hq' with h9 | h9
                      · exact HO.out q' h9
                      · rw [List.mem_singleton] at h9; subst h9; exact HQB.out⟩
                    case measure => simp [intOf]; omega
              · obtain rfl : j = m := by omega
                have hd : decide (1 + (j : Int) ≤ (j : Int)) = false := by simp; omega
                have hfin := PA.out.puts (fp := fp) (fun g hg hf => by have := HLT.out g hf; omega) HLT.out
                have FI := hid hfin
                have BW := hid PA.out.2.2.2.1
                clear hfin
                have HB : Hid (∀ q ∈ logOf s.now j, q.2.length ≤ 504) := hid (fun q hq => by
                  obtain ⟨i, hi, rfl⟩ := List.mem_map.1 hq
                  have := List.mem_range.1 hi
                  have h9 := row_length OK.out.now (show 1 + i < n by omega)
                  show ((row s.now (1 + i)).drop 8).length ≤ 504
                  simp [h9])
                have HOK : Hid (homesOk n (logOf s.now j) = true) := hid (by
                  unfold homesOk
                  rw [List.all_eq_true]
                  intro q hq
                  have := HO.out q hq
                  simpa using this)
                have HE2 := hid HE1.out
                rw [if_pos HOK.out] at HE2
                have hll : (logOf s.now j).length = j := logOf_length _ _
                generalize hls : logOf s.now j = ls at *
                subst hll
                clear hls PA
                go_wp2_with fail
                refine (xhomes_any wr r fp n s sp sc ls (H.out.chg (Chg.new BW.out NoFp) (fun _ _ h => h)) FI.out.1 FI.out.2 hmn2 HB.out (by omega)).mono ?_
                rintro e1 w9 ⟨rfl, hto⟩
                have T9 := hid (XTo.after (Chg.new BW.out fp) (fun k h => .inl h) hto)
                clear hto
                generalize hr : runStps n s (finSteps ls) = R at *
                have HR := hid hr
                clear hr
                by_cases h0 : R.2 = 0
                · have HE3 := hid HE2.out
                  rw [if_pos h0] at HE3
                  go_wp2_with fail
                  go_ret2
                  rw [HE3.out]
                  exact ⟨rfl, T9.out⟩
                · have HE3 := hid HE2.out
                  rw [if_neg h0] at HE3
                  have h0' : (R.2 == 0) = false := by simpa using h0
                  go_wp2_with fail
                  go_ret2
                  rw [HE3.out]
                  exact ⟨rfl, T9.out⟩
    · have hm0 : (R.take 8 == [84, 82, 73, 65, 68, 76, 79, 71]) = false := by rw [beq_eq_false_iff_ne]; exact hm
      have HN : Hid (recov n s = (s, 0, 0)) := hid (by rw [HE.out, if_pos (show N = 0 by rw [HCN.out, if_neg (by rintro ⟨h, _⟩; exact hm (by simpa using h))])])
      clear hm hcb
      go_wp2_with (first
        | (refine wpList_slice_rd rfl 26 _ _ _ rfl 5 1 Try.underlying26 infoU8' _ 512 (bv R) rfl ?hrd 0 8 rfl ⟨_, _, rfl, by decide, rfl⟩ (by omega) (by omega) ?_; (case hrd => exact BS5.out); intro p5 c5 hrd5 hob5; (have R5 := hid (HSL.out p5 c5 hrd5)); clear hrd5 hob5)
        | (refine wpList_bytes_str rfl 26 9 _ rfl 5 Try.underlying26 Try.underlying5 Try.underlying9 _ (R.take 8) rfl R5.out ?_))
      go_ret2
      rw [HN.out]
      exact ⟨rfl, FIN.out s _ B4.out⟩
end Go.Proofs.Ytplahohlmiphoaa
