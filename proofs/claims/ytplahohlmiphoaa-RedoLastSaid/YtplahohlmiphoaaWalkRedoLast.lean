/- triadlaw3.RedoLast: the walk. -/
import Derived.Test.YtplahohlmiphoaaPureW
import Derived.Test.YtplahohlmiphoaaZer
namespace Go.Proofs.Ytplahohlmiphoaa
open Go.RowKit
set_option linter.unusedVariables false

theorem map_set_sv' (A : List (List UInt8)) (k : Nat) (x : List UInt8) : (A.set k x).map sv = (A.map sv).set k (sv x) := by rw [List.map_set]

/-- the disk and what is wanted of it -/
def LAt (d wg : Nat) (F' : Nat → Prop) (W w' : World) (fp : Nat → Prop) (s : DS) (A : List (List UInt8)) : Prop :=
  Dsk w' d fp 420 s ∧ Blk w' wg (A.map sv) 53 ∧ A.length = 19 ∧ Chg F' W w' ∧ (∀ k, fp k → F' k ∨ W.heap.size ≤ k) ∧ ¬ fp wg ∧ F' wg
theorem LAt.new {d wg : Nat} {F' fp : Nat → Prop} {W w' w'' : World} {s : DS} {A : List (List UInt8)} (h : LAt d wg F' W w' fp s A) (hb : Below w'.heap.size w' w'') : LAt d wg F' W w'' fp s A :=
  ⟨h.1.chg (Chg.new hb NoFp) (fun _ _ h => h), h.2.1.chg (Chg.new hb NoFp) (fun h => h), h.2.2.1, h.2.2.2.1.trans (Chg.new hb F') (fun _ _ h => h), h.2.2.2.2⟩
theorem LAt.step {d wg : Nat} {F' fp : Nat → Prop} {W w' w'' : World} {s s' : DS} {A : List (List UInt8)} (h : LAt d wg F' W w' fp s A) (ht : DskTo w' d fp 420 s' w'') : ∃ fp', LAt d wg F' W w'' fp' s' A := by
  obtain ⟨fp', h1, h2, h3⟩ := ht
  obtain ⟨g1, g2, g3, g4, g5, g6, g7⟩ := h
  refine ⟨fp', h1, g2.chg h2 g6, g3, g4.trans h2 (fun k hk hf => ?_), fun k hk => ?_, fun hf => ?_, g7⟩
  · rcases g5 k hf with h4 | h4
    · exact h4
    · omega
  · rcases h3 k hk with h4 | h4
    · exact g5 k h4
    · exact .inr (Nat.le_trans g4.size h4)
  · rcases h3 wg hf with h4 | h4
    · exact g6 h4
    · have := g2.lt; omega
theorem LAt.set {d wg : Nat} {F' fp : Nat → Prop} {W w' : World} {s : DS} {A : List (List UInt8)} (h : LAt d wg F' W w' fp s A) (k : Nat) (x : List UInt8) : LAt d wg F' W (w'.setCell ⟨wg, k, none⟩ (sv x)) fp s (A.set k x) := by
  obtain ⟨g1, g2, g3, g4, g5, g6, g7⟩ := h
  have hc : Chg (fun z => z = wg) w' (w'.setCell ⟨wg, k, none⟩ (sv x)) := Chg.setCell (fp := fun z => z = wg) w' (a := ⟨wg, k, none⟩) rfl _
  refine ⟨g1.chg hc (fun z hz he => g6 (he ▸ hz)), ?_, by rw [List.length_set]; exact g3, g4.trans hc (fun z _ hz => by have hz2 : z = wg := hz; rw [hz2]; exact g7), g5, g6, g7⟩
  rw [map_set_sv']
  exact g2.set k _
theorem LAt.puts {d wg : Nat} {F' fp : Nat → Prop} {W w' : World} {s : DS} {A : List (List UInt8)} (h : LAt d wg F' W w' fp s A) {a : Option Addr} {zs : List (Int × List UInt8)} (hp : IsPuts W F' a zs) (ho : PutsOut F' a) : IsPuts w' fp a zs ∧ (¬ zs.length = 0 → PutsOut fp a) := by
  refine ⟨hp.chg ho h.2.2.2.1 h.2.2.2.2.1, fun h0 ad had hf => ?_⟩
  rcases h.2.2.2.2.1 _ hf with h9 | h9
  · exact ho ad had h9
  · obtain ⟨ab, ao, q, p, pc, he, _, k0, _⟩ := hp 0 (by omega)
    rw [he] at had
    injection had with had
    subst had
    have h8 : ab < W.heap.size := World.block_lt_of_cell? W ⟨ab, ao + 0 * 2, none⟩ k0
    have h7 : W.heap.size ≤ ab := h9
    omega

theorem arrInfo0 : (Try.prog.info? 53).map (·.zero) = some (some (.agg ((List.replicate 19 ([] : List UInt8)).map sv).toArray)) := by kernel_rfl

/-- a row of pages that is good -/
def GoodRow (F' : Nat → Prop) (W : World) (v : Value) (zs : List (Int × List UInt8)) : Prop :=
  ∃ a c, v = .slice a zs.length c ∧ IsPuts W F' a zs ∧ PutsOut F' a ∧ zs.length ≤ 8 ∧ (∀ p ∈ zs, 401 ≤ p.1 ∧ p.1 < 420 ∧ p.2.length ≤ 504) ∧ (¬ zs.length = 0 → LOk 420 zs)

set_option maxRecDepth 100000 in
set_option maxHeartbeats 8000000 in
theorem redoLast_walk (a0 : Option Addr) (len0 cap0 : Nat) (z0 : List (Int × List UInt8)) (a1 : Option Addr) (len1 cap1 : Nat) (z1 : List (Int × List UInt8)) (a2 : Option Addr) (len2 cap2 : Nat) (z2 : List (Int × List UInt8))
    (w : World) (w0 : IsPutsA w a0 len0 cap0 z0) (w1 : IsPutsA w a1 len1 cap1 z1) (w2 : IsPutsA w a2 len2 cap2 z2) :
    Calls Try.prog 6 #[.slice a0 len0 cap0, .slice a1 len1 cap1, .slice a2 len2 cap2] w fun e w' => e = .returned (.bool true) ∧ Below w.heap.size w w' := by
  have H0 := hid w0
  have H1 := hid w1
  have H2 := hid w2
  clear w0 w1 w2
  go_enter Try.func6, Try.ntmps6
  go_wp2_with fail
  refine (known3_any _).mono ?_; rintro e1 wk ⟨rfl, hbk⟩
  have BK := hid hbk
  clear hbk
  go_wp2_with fail
  refine (few3_any wk _ _ _ z0 (H0.out.keep BK.out)).mono ?_
  rintro e1 wx ⟨rfl, hw⟩
  subst hw
  generalize hf0 : fewOf z0 = b0
  cases b0 with
  | false =>
    go_wp2_with fail
    go_ret
    exact ⟨rfl, BK.out⟩
  | true =>
    go_wp2_with fail
    refine (few3_any wk _ _ _ z1 (H1.out.keep BK.out)).mono ?_
    rintro e1 wx ⟨rfl, hw⟩
    subst hw
    generalize hf1 : fewOf z1 = b1
    cases b1 with
    | false =>
      go_wp2_with fail
      go_ret
      exact ⟨rfl, BK.out⟩
    | true =>
      go_wp2_with fail
      refine (few3_any wk _ _ _ z2 (H2.out.keep BK.out)).mono ?_
      rintro e1 wx ⟨rfl, hw⟩
      subst hw
      generalize hf2 : fewOf z2 = b2
      cases b2 with
      | false =>
        go_wp2_with fail
        go_ret
        exact ⟨rfl, BK.out⟩
      | true =>
        obtain ⟨hl0, hb0⟩ := fewOf_spec hf0
        obtain ⟨hl1, hb1⟩ := fewOf_spec hf1
        obtain ⟨hl2, hb2⟩ := fewOf_spec hf2
        have HB0 := hid hb0
        have HB1 := hid hb1
        have HB2 := hid hb2
        clear hf0 hf1 hf2 hb0 hb1 hb2
        go_wp2_with fail
        refine (dNew_any _ _).mono ?_; rintro e1 w1 ⟨d, rfl, hd, hb1, hl⟩
        rw [show clampN 420 = 420 from by decide] at hd
        have D1 := hid hd
        have B1 := hid (BK.out.trans (hb1.mono BK.out.size))
        have S1 : Hid (wk.heap.size ≤ w1.heap.size) := hid hb1.size
        clear hd hb1 hl
        go_wp2_with (refine wpList_alloc_z rfl 53 rfl _ arrInfo0 ?_; intro w2 hw2 hb2 hl2; have K2 := hid hw2; have B2 := hid hb2; have L2 := hid hl2; clear hw2 hb2 hl2)
        generalize hwg : w1.heap.size = wg at *
        have WG := hid hwg
        clear hwg
        have hF : ∃ F' : Nat → Prop, ∀ k, F' k ↔ ((wk.heap.size ≤ k ∧ k < wg) ∨ k = wg) := ⟨_, fun k => Iff.rfl⟩
        obtain ⟨F', hF⟩ := hF
        have FF := hid hF
        clear hF
        have A2 : Hid (LAt d wg F' w2 w2 (fun k => wk.heap.size ≤ k ∧ k < wg) (dNew 420) (List.replicate 19 [])) := hid (by
          refine ⟨D1.out.chg (Chg.new (by rw [WG.out]; exact B2.out) NoFp) (fun _ _ h => h), K2.out, by simp, Chg.refl _ _, fun k hk => .inl ((FF.out k).2 (.inl hk)), fun h => by omega, (FF.out wg).2 (.inr rfl)⟩)
        have B02 := hid (B1.out.trans (B2.out.mono (by rw [← WG.out]; exact B1.out.size)))
        go_loopw [9] (fun i wr => ∃ (j : Nat) (A : List (List UInt8)), j ≤ 19 ∧ i = .int .i64 j ∧ LAt d wg F' w2 wr (fun k => wk.heap.size ≤ k ∧ k < wg) (dNew 420) A ∧ (∀ m, m < j → A[m]? = some z512)) (fun i _ => 20 - (intOf i).toNat)
        case atStart => exact ⟨0, _, by omega, rfl, A2.out, fun m hm => by omega⟩
        case round =>
          obtain ⟨j, A, hj, rfl, hat, hz⟩ := hrel
          have AT := hid hat
          have HZ := hid hz
          clear hat hz A2
          by_cases hlt : j < 19
          · obtain ⟨old, hold⟩ : ∃ x, A[j]? = some x := ⟨_, List.getElem?_eq_getElem (by rw [AT.out.2.2.1]; exact hlt)⟩
            have hlt' : (j : Int) < 19 := by omega
            have kcell : ∀ w', Below wr.heap.size wr w' → w'.cell? ⟨wg, j, none⟩ = some (sv old) ∧ w'.frozen? ⟨wg, j, none⟩ = false := fun w' hb => by
              have h1 := (AT.out.new hb).2.1
              exact ⟨by rw [h1.cell, List.getElem?_map, hold]; rfl, h1.frozen j⟩
            have KC := hid kcell
            clear kcell hold
            go_wp2_with (first
              | (at_make; refine wpList_make_blk rfl _ _ 26 rfl 5 _ 1 1 Try.underlying26 infoU8 _ _ _ _ 512 rfl rfl rfl rfl (by omega) (by simp only [maxLen]; omega) ?_; intro w5 hh hb5 hl5; rw [made_bytes] at hh; (have BS5 : Hid (Bs w5 (.slice (some ⟨wr.heap.size, 0, none⟩) 512 512) z512) := hid (Bs.blk hh z512_length.symm (by simp [maxLen]))); (have AT5 := hid (AT.out.new hb5)); obtain ⟨kc, kf⟩ := KC.out w5 hb5; clear hh hb5 hl5)
              | (refine wpList_bytes_str rfl 26 9 _ rfl 5 Try.underlying26 Try.underlying5 Try.underlying9 _ z512 rfl BS5.out ?_))
            have ATS := hid (AT5.out.set j z512)
            have HZ2 : Hid (∀ m, m < j + 1 → (A.set j z512)[m]? = some z512) := hid (fun m hm => by
              by_cases e : m = j
              · rw [e, List.getElem?_set_self (by rw [AT.out.2.2.1]; exact hlt)]
              · rw [List.getElem?_set_ne (fun h => e h.symm)]
                exact HZ.out m (by omega))
            go_roundw
            case rel => exact ⟨j + 1, _, by omega, by go_num, ATS.out, HZ2.out⟩
            case measure => simp [intOf]; omega
          · obtain rfl : j = 19 := by omega
            have hA : A = homesL 420 (List.replicate (420 * 512) 0) := by
              apply List.ext_getElem?
              intro m
              rcases Nat.lt_or_ge m 19 with hm | hm
              · rw [HZ.out m hm, homesL_get hm, row_zero (by omega)]
              · rw [List.getElem?_eq_none (by rw [AT.out.2.2.1]; exact hm), List.getElem?_eq_none (by rw [homesL_length]; exact hm)]
            subst hA
            obtain ⟨w3, hw3⟩ : ∃ w3, w3 = wr := ⟨_, rfl⟩
            subst hw3
            have B3 := hid (B02.out.trans (AT.out.2.2.2.1.below (fun k hk => by have := (FF.out k).1 hk; have := BK.out.size; have := S1.out; have := WG.out; omega) B02.out.size))
            go_wp2_with fail
            refine (good3_any w w3 a0 len0 cap0 z0 H0.out B3.out HB0.out (by omega)).mono ?_
            rintro e1 w4 ⟨p0, c0, bs0, rfl, hpa⟩
            have PA0 := hid hpa
            have B4 := hid (B3.out.trans (hpa.2.2.2.1.mono B3.out.size))
            clear hpa
            go_wp2_with fail
            refine (good3_any w w4 a1 len1 cap1 z1 H1.out B4.out HB1.out (by omega)).mono ?_
            rintro e1 w5 ⟨p1, c1, bs1, rfl, hpa⟩
            have PA1 := hid hpa
            have B5 := hid (B4.out.trans (hpa.2.2.2.1.mono B4.out.size))
            clear hpa
            go_wp2_with fail
            refine (good3_any w w5 a2 len2 cap2 z2 H2.out B5.out HB2.out (by omega)).mono ?_
            rintro e1 w6 ⟨p2, c2, bs2, rfl, hpa⟩
            have PA2 := hid hpa
            have B6 := hid (B5.out.trans (hpa.2.2.2.1.mono B5.out.size))
            clear hpa
            go_wp2_with fail
            have h7b : Below w6.heap.size w6 (w6.alloc (Obj.cells #[.slice p0 (goodOf z0).length c0, .slice p1 (goodOf z1).length c1, .slice p2 (goodOf z2).length c2] 29)) := (Below.refl _ _).alloc (Nat.le_refl _) _
            have h7k : Blk (w6.alloc (Obj.cells #[.slice p0 (goodOf z0).length c0, .slice p1 (goodOf z1).length c1, .slice p2 (goodOf z2).length c2] 29)) w6.heap.size [.slice p0 (goodOf z0).length c0, .slice p1 (goodOf z1).length c1, .slice p2 (goodOf z2).length c2] 29 := heap_alloc_new w6 _
            generalize w6.alloc (Obj.cells #[.slice p0 (goodOf z0).length c0, .slice p1 (goodOf z1).length c1, .slice p2 (goodOf z2).length c2] 29) = w7 at *
            have B67 := hid h7b
            have K7 := hid h7k
            clear h7b h7k
            have SZ : Hid (wg < w3.heap.size ∧ w3.heap.size ≤ w4.heap.size ∧ w4.heap.size ≤ w5.heap.size ∧ w5.heap.size ≤ w6.heap.size ∧ w6.heap.size < w7.heap.size) := hid ⟨AT.out.2.1.lt, PA0.out.2.2.2.1.size, PA1.out.2.2.2.1.size, PA2.out.2.2.2.1.size, K7.out.lt⟩
            have FL : Hid (∀ k, F' k → w.heap.size ≤ k ∧ k < w3.heap.size) := hid (fun k hk => by have := (FF.out k).1 hk; have := BK.out.size; have := SZ.out; have := S1.out; have := WG.out; omega)
            have mk : ∀ (W0 : World) (z : List (Int × List UInt8)) (bs : List Value) (W1 : World) (p : Option Addr) (c : Nat), PutsAt W0.heap.size (fun g => g < w.heap.size) (goodOf z) bs W0 W1 (.slice p (goodOf z).length c) → w3.heap.size ≤ W0.heap.size → Below W1.heap.size W1 w7 → GoodRow F' w7 (.slice p (goodOf z).length c) (goodOf z) := fun W0 z bs W1 p c hpa hs hb => by
              obtain ⟨q1, q2⟩ := (hpa.new hb).puts2 (fp := F') (fun g hg hf => by have := (FL.out g hf).1; omega) (fun k hk => .inl (by have := (FL.out k hk).2; omega))
              exact ⟨p, c, rfl, q1, q2, (goodOf_spec z).1, (goodOf_spec z).2, good_ok z⟩
            have R0 := hid (mk w3 z0 bs0 w4 p0 c0 PA0.out (Nat.le_refl _) ((PA1.out.2.2.2.1.trans (PA2.out.2.2.2.1.mono PA1.out.2.2.2.1.size)).trans (B67.out.mono (Nat.le_trans PA1.out.2.2.2.1.size PA2.out.2.2.2.1.size))))
            have R1 := hid (mk w4 z1 bs1 w5 p1 c1 PA1.out SZ.out.2.1 (PA2.out.2.2.2.1.trans (B67.out.mono PA2.out.2.2.2.1.size)))
            have R2 := hid (mk w5 z2 bs2 w6 p2 c2 PA2.out (Nat.le_trans SZ.out.2.1 SZ.out.2.2.1) B67.out)
            clear mk
            have RS : Hid (∀ j : Nat, j < 3 → ∃ v zs, w7.cell? ⟨w6.heap.size, j, none⟩ = some v ∧ GoodRow F' w7 v zs) := hid (fun j hj => by
              have k0 := K7.out.cell 0
              have k1 := K7.out.cell 1
              have k2 := K7.out.cell 2
              rcases (show j = 0 ∨ j = 1 ∨ j = 2 by omega) with rfl | rfl | rfl
              · exact ⟨_, _, k0, R0.out⟩
              · exact ⟨_, _, k1, R1.out⟩
              · exact ⟨_, _, k2, R2.out⟩)
            have B37 : Hid (Below w3.heap.size w3 w7) := hid (((PA0.out.2.2.2.1.trans (PA1.out.2.2.2.1.mono PA0.out.2.2.2.1.size)).trans (PA2.out.2.2.2.1.mono (Nat.le_trans SZ.out.2.1 SZ.out.2.2.1))).trans (B67.out.mono (Nat.le_trans (Nat.le_trans SZ.out.2.1 SZ.out.2.2.1) SZ.out.2.2.2.1)))
            have A7 := hid (AT.out.new B37.out)
            have L7 : Hid (LAt d wg F' w7 w7 (fun k => wk.heap.size ≤ k ∧ k < wg) (dNew 420) (homesL 420 (List.replicate (420 * 512) 0))) := hid ⟨A7.out.1, A7.out.2.1, A7.out.2.2.1, Chg.refl _ _, fun k hk => .inl ((FF.out k).2 (.inl hk)), fun h => by omega, A7.out.2.2.2.2.2.2⟩
            have B7 := hid (B3.out.trans (B37.out.mono B3.out.size))
            have NI : Hid (¬ F' w6.heap.size) := hid (fun h => by have := (FL.out _ h).2; have := SZ.out; omega)
            have RE0 : Hid (Rest 420 (dNew 420) (List.replicate (420 * 512) 0) ∧ row (List.replicate (420 * 512) 0) 0 = z512 ∧ (dNew 420).stop < 1 ∧ (dNew 420).ops ≤ 2010 * ((0 : Nat) : Int)) := hid ⟨rest_new 420, row_zero (by omega), by show (0 : Int) < 1; omega, by show (0 : Int) ≤ _; omega⟩
            generalize List.replicate (420 * 512) (0 : UInt8) = F0 at *
            generalize dNew 420 = s0 at *
            clear PA0 PA1 PA2 R0 R1 R2 B3 B4 B5 B6 B37 A7 K7 B67 AT HZ H0 H1 H2 HB0 HB1 HB2 BK B1 S1 D1 K2 B2 L2 B02 WG
            go_loopw [11] (fun i wr => ∃ (j : Nat) (s : DS) (fp : Nat → Prop) (F : List UInt8), j ≤ 3 ∧ i = .int .i64 j ∧ LAt d wg F' w7 wr fp s (homesL 420 F) ∧ Rest 420 s F ∧ row F 0 = z512 ∧ s.stop < 1 ∧ s.ops ≤ 2010 * (j : Int)) (fun i _ => 4 - (intOf i).toNat)
            case atStart => exact ⟨0, s0, _, F0, by omega, rfl, L7.out, RE0.out.1, RE0.out.2.1, RE0.out.2.2.1, RE0.out.2.2.2⟩
            case round =>
              obtain ⟨j, s, fp, F, hj, rfl, hla, hre, hz0, hst, hops⟩ := hrel
              have LA := hid hla
              have RE := hid hre
              have RZ := hid hz0
              have SO := hid (And.intro hst hops)
              clear hla hre hz0 hst hops L7 RE0
              have BLW : Hid (∀ w', Chg F' w7 w' → Below w.heap.size w w') := hid (fun w' hc => B7.out.trans (hc.below (fun k hk => (FL.out k hk).1) B7.out.size))
              by_cases hlt : j < 3
              · obtain ⟨v, G, hcell, a, c, rfl, hgp, hgo, hgl, hgs, hgk⟩ := RS.out j hlt
                have HC := hid hcell
                have GP := hid hgp
                have GO := hid hgo
                have GS := hid hgs
                have GK := hid hgk
                clear hcell hgp hgo hgs hgk
                have CELL : Hid (∀ w', Chg F' w7 w' → w'.cell? ⟨w6.heap.size, j, none⟩ = some (.slice a G.length c)) := hid (fun w' hc => (CellTo hc NI.out (by have := SZ.out; omega)).trans HC.out)
                have kc := CELL.out wr LA.out.2.2.2.1
                generalize hAA : homesL 420 F = A at *
                have HA := hid hAA
                clear hAA
                have hj3 : (j : Int) < 3 := by omega
                rcases Nat.eq_zero_or_pos G.length with hG | hG
                case' inl =>
                  obtain ⟨w8, hw8⟩ : ∃ w8, w8 = wr := ⟨_, rfl⟩
                  subst hw8
                  obtain ⟨s2, hs2⟩ : ∃ s2, s2 = s := ⟨_, rfl⟩
                  subst hs2
                  obtain ⟨fp2, hfp2⟩ : ∃ fp2, fp2 = fp := ⟨_, rfl⟩
                  subst hfp2
                  obtain ⟨F2, hF2⟩ : ∃ F2, F2 = F := ⟨_, rfl⟩
                  subst hF2
                  have LB := hid LA.out
                  have HE0 : Hid (homesL 420 F2 = afterOf G A) := hid (by rw [List.eq_nil_of_length_eq_zero hG]; exact HA.out)
                  have REB := hid RE.out
                  have RZB := hid RZ.out
                  have SOB : Hid (s2.stop < 1 ∧ s2.ops ≤ 2010 * ((j + 1 : Nat) : Int)) := hid (by have := SO.out; refine ⟨this.1, ?_⟩; push_cast; omega)
                  have hgt : decide ((0 : Int) < (G.length : Int)) = false := by rw [decide_eq_false_iff_not]; omega
                  go_wp2_with fail
                  clear hG hgt
                case' inr =>
                  have lok := GK.out (by omega)
                  obtain ⟨h1, h2⟩ := com_run lok RE.out RZ.out
                  obtain ⟨e0, hst, hops⟩ := h2 SO.out.1
                  have hpt := LA.out.puts GP.out GO.out
                  have HCM := hid (com_any wr d fp 420 s a c G LA.out.1 hpt.1 hpt.2 (by omega) (fun q hq => by have := GS.out q hq; omega) (fun q hq => wf_small (by have := GS.out q hq; omega) (by have := GS.out q hq; omega)) (by have := SO.out.2; omega))
                  obtain ⟨F2, hr2, hpc⟩ : ∃ F2, Rest 420 (cmt 420 s G).1 F2 ∧ PC 420 G F F2 := by
                    rcases h1 with ⟨_, h1⟩ | ⟨e, _⟩
                    · exact h1
                    · omega
                  have HE0 : Hid (homesL 420 F2 = afterOf G A) := hid (by rw [homes_PC lok hpc, HA.out])
                  have SOB : Hid ((cmt 420 s G).1.stop < 1 ∧ (cmt 420 s G).1.ops ≤ 2010 * ((j + 1 : Nat) : Int)) := hid ⟨by rw [hst]; exact SO.out.1, by have := SO.out.2; rw [hops]; push_cast; omega⟩
                  rw [e0] at HCM
                  have REB := hid hr2
                  have RZB := hid hpc.1
                  have hgt : decide ((0 : Int) < (G.length : Int)) = true := by simp; omega
                  generalize (cmt 420 s G).1 = s2 at *
                  clear h1 h2 hst hops hpt hr2 hpc e0 lok
                  go_wp2_with fail
                  refine HCM.out.mono ?_
                  rintro e1 w8 ⟨rfl, hto⟩
                  obtain ⟨fp2, hl2⟩ := LA.out.step hto
                  have LB := hid hl2
                  clear hto hl2 kc HCM
                  go_wp2_with fail
                all_goals (
                  clear LA RE RZ SO
                  go_loopw [12] (fun i wx => ∃ k : Nat, k ≤ G.length ∧ i = .int .i64 k ∧ LAt d wg F' w7 wx fp2 s2 (afterOf (G.take k) A)) (fun i _ => G.length + 1 - (intOf i).toNat)
                  case atStart => exact ⟨0, Nat.zero_le _, rfl, LB.out⟩
                  case round =>
                    obtain ⟨k, hk, rfl, hla⟩ := hrel
                    have LC := hid hla
                    clear hla
                    have kc := CELL.out wr LC.out.2.2.2.1
                    by_cases hlt2 : k < G.length
                    · obtain ⟨ab, ao, q, p, pc, rfl, hq, k0, k1, hfar⟩ := (GP.out.chg GO.out LC.out.2.2.2.1 LC.out.2.2.2.2.1) k hlt2
                      have hqs := GS.out q (List.mem_of_getElem? hq)
                      have AT := hid (afterOf_take (A := A) hq)
                      obtain ⟨m, hm⟩ : ∃ m : Nat, q.1 = 401 + (m : Int) := ⟨(q.1 - 401).toNat, by omega⟩
                      have hm19 : m < 19 := by omega
                      rw [hm] at k0
                      have hmt : (q.1 - 401).toNat = m := by omega
                      have AE : Hid (afterOf (G.take (k + 1)) A = (afterOf (G.take k) A).set m (pad q.2)) := hid (by rw [AT.out]; unfold setHome; rw [hmt])
                      have hws : IntKind.i64.wrap (401 + (m : Int) - 401) = (m : Int) := by rw [show 401 + (m : Int) - 401 = (m : Int) by omega]; simp [IntKind.wrap, IntKind.bits, IntKind.signed]; omega
                      have hwl : IntKind.i64.wrap (512 - (q.2.length : Int)) = ((512 - q.2.length : Nat) : Int) := by simp [IntKind.wrap, IntKind.bits, IntKind.signed]; omega
                      have FA := hid hfar
                      have HQL : Hid (q.2.length ≤ 504) := hid hqs.2.2
                      have hib := World.block_lt_of_cell? wr ⟨w6.heap.size, j, none⟩ kc
                      have HK : Hid (∀ w', Below wr.heap.size wr w' → w'.cell? ⟨ab, ao + k * 2, none⟩ = some (.int .i64 (401 + (m : Int))) ∧ w'.cell? ⟨ab, ao + k * 2 + 1, none⟩ = some (.slice p q.2.length pc) ∧ w'.cell? ⟨w6.heap.size, j, none⟩ = some (.slice (some ⟨ab, ao, none⟩) G.length c)) := hid (fun w' hb =>
                        ⟨(hb.cell (p := ⟨ab, ao + k * 2, none⟩) (World.block_lt_of_cell? wr ⟨ab, ao + k * 2, none⟩ k0)).trans k0, (hb.cell (p := ⟨ab, ao + k * 2 + 1, none⟩) (World.block_lt_of_cell? wr ⟨ab, ao + k * 2 + 1, none⟩ k1)).trans k1, (hb.cell (p := ⟨w6.heap.size, j, none⟩) hib).trans kc⟩)
                      clear hq hqs hfar k0 k1 AT hmt hm hib
                      have hlt3 : decide ((k : Int) < (G.length : Int)) = true := by simp; omega
                      go_wp2_with fail
                      refine wp_region_plan (fun w' => w'.cell? ⟨ab, ao + k * 2, none⟩ = some (.int .i64 (401 + (m : Int))) ∧ w'.cell? ⟨ab, ao + k * 2 + 1, none⟩ = some (.slice p q.2.length pc) ∧ w'.cell? ⟨w6.heap.size, j, none⟩ = some (.slice (some ⟨ab, ao, none⟩) G.length c)) (fun j => !([9, 18, 29, 30, 31, 32].contains j)) (fun j => j == 32)
                        (.of [0, 1, 2, 3, 4, 5, 6, 7, 8, 10, 11, 12, 13, 14, 15, 16, 17, 19, 20, 21, 22, 23, 24, 25, 26, 27, 28, 9, 18, 29, 30, 31, 32]) (by kernel_rfl) (by kernel_rfl) rfl (by kernel_rfl) (by kernel_rfl) (HK.out _ (below_drewN (Below.refl _ _) 1)) ?_
                      clear kc
                      iterate 27 (apply wpPlan_val; (case ho => rfl); (case hst => rfl); (case hw => rfl); (case hv => intro w' hS; obtain ⟨c0, c1, c2⟩ := hS; go_simp; first | done | rfl); intro K hK; go_simp; refine hK _ ?_; clear hK K)
                      have BD : Hid (Below wr.heap.size wr wr.drew) := hid (below_drewN (Below.refl _ _) 1)
                      generalize wr.drew = wd at *
                      refine wpPlan_list rfl rfl rfl (fun K hK => ?_)
                      refine wpList_step (fun K2 hK2 => ?_)
                      go_simp
                      refine hK2 _ _ ?_
                      clear hK2 K2
                      simp only [wpList]
                      refine hK _ _ (fun _ => HK.out _ (BD.out.alloc BD.out.size _)) ?_
                      clear hK K
                      refine wpPlan_list rfl rfl rfl (fun K hK => ?_)
                      refine wpList_append_rd rfl _ _ 26 rfl wd.heap.size 5 _ 1 1 Try.underlying26 infoU8 rfl (by decide) _ 0 [] rfl (own_fresh _ _ _ 0 rfl (by simp [maxLen]) _ (Nat.le_refl _)) _ q.2.length (bv q.2) rfl ((FA.out.1.new BD.out).new ((Below.refl _ _).alloc (Nat.le_refl _) _)) (bv_one _) (by have := HQL.out; simp only [maxLen]; omega) (by have := HQL.out; omega) (by simp) ?_
                      intro p8 c8 w8' hown8 hg8 hb8
                      rw [List.nil_append, Nat.zero_add] at hown8
                      have O8 := hid hown8
                      have B8 := hid (((Below.refl wd.heap.size wd).alloc (Nat.le_refl _) (.cells #[] 5)).grown hg8 (by simp) (by intro k hk; cases hk; exact Nat.le_refl _))
                      have BR8 := hid (BD.out.trans (B8.out.mono BD.out.size))
                      clear hown8 hg8 hb8
                      simp only [wpList]
                      refine hK _ _ (fun _ => HK.out _ BR8.out) ?_
                      clear hK K
                      rw [Nat.zero_add]
                      refine wpPlan_list rfl rfl rfl (fun K hK => ?_)
                      refine wpList_append_zeros rfl _ _ 26 3 rfl wd.heap.size 5 .i64 .i64 Try.underlying26 Try.underlying3 infoU8 _ q.2.length (bv q.2) rfl O8.out (512 - q.2.length) rfl (by have := HQL.out; omega) B8.out.size ?_
                      intro p9 c9 w9 hown9 hg9
                      have hpl : q.2.length + (512 - q.2.length) = 512 := by have := HQL.out; omega
                      rw [hpl] at hown9 ⊢
                      have V9 : Hid (Bs w9 (.slice p9 512 c9) (pad q.2)) := hid (by
                        have h5 := Rd.of_own hown9
                        rw [← bv_rep, ← bv_append] at h5
                        unfold Bs
                        rw [pad_length (by have := HQL.out; omega)]
                        exact h5)
                      have B9 := hid (B8.out.grown hg9 B8.out.size (fun k hk => (O8.out.lt k hk).1))
                      have BR9 := hid (BD.out.trans (B9.out.mono BD.out.size))
                      clear hown9 hg9 hpl
                      simp only [wpList]
                      refine hK _ _ (fun _ => HK.out _ BR9.out) ?_
                      clear hK K
                      refine wpPlan_list rfl rfl rfl (fun K hK => ?_)
                      refine wpList_bytes_str rfl 26 9 _ rfl 5 Try.underlying26 Try.underlying5 Try.underlying9 _ (pad q.2) rfl V9.out ?_
                      simp only [wpList]
                      refine hK _ _ (fun _ => HK.out _ BR9.out) ?_
                      clear hK K
                      have LC9 := hid (LC.out.new BR9.out)
                      obtain ⟨old, hold⟩ : ∃ x, (afterOf (G.take k) A)[m]? = some x := ⟨_, List.getElem?_eq_getElem (by rw [LC9.out.2.2.1]; exact hm19)⟩
                      have kc : w9.cell? ⟨wg, m, none⟩ = some (sv old) := by rw [LC9.out.2.1.cell, List.getElem?_map, hold]; rfl
                      have kf := LC9.out.2.1.frozen m
                      have LS := hid (LC9.out.set m (pad q.2))
                      clear hold
                      have hm19' : (m : Int) < 19 := by omega
                      refine wpPlan_list rfl rfl rfl (fun K hK => ?_)
                      refine wpList_step (fun K2 hK2 => ?_)
                      go_simp
                      refine hK2 _ _ ?_
                      clear hK2 K2
                      simp only [wpList]
                      refine hK _ _ (fun _ => HK.out _ BR9.out) ?_
                      clear hK K
                      refine wpPlan_list rfl rfl rfl (fun K hK => ?_)
                      refine wpList_step (fun K2 hK2 => ?_)
                      go_simp
                      refine hK2 _ _ ?_
                      clear hK2 K2
                      simp only [wpList]
                      refine hK _ _ (fun h => by cases h) ?_
                      clear hK K
                      refine wpPlan_nil ?_
                      simp only [Qn]
                      clear kc kf
                      go_wp2_with fail
                      go_roundw
                      case rel => exact ⟨k + 1, by omega, by go_num, by rw [AE.out]; exact LS.out⟩
                      case measure => simp [intOf]; omega
                    · obtain rfl : k = G.length := by omega
                      rw [List.take_length] at LC
                      rw [← HE0.out] at LC
                      have hge : decide ((G.length : Int) < (G.length : Int)) = false := by simp
                      go_wp2_with fail
                      go_roundw
                      case rel => exact ⟨j + 1, s2, fp2, F2, by omega, by go_num, LC.out, REB.out, RZB.out, SOB.out.1, SOB.out.2⟩
                      case measure => simp [intOf]; omega)
              · obtain rfl : j = 3 := by omega
                have BX := hid (BLW.out wr LA.out.2.2.2.1)
                go_wp2_with fail
                refine (dCrash_any wr d fp 420 s (.slice none 0 0) [] LA.out.1 (Rd.nil _ _) (fun h => by simp at h)).mono ?_
                rintro e1 w8 ⟨rfl, hd8, hc8⟩
                obtain ⟨fp8, hl8⟩ := LA.out.step ⟨fp, hd8, hc8, fun _ h => .inl h⟩
                have L8 := hid hl8
                have R8 := hid (RE.out.crash []).1
                clear hd8 hc8 hl8 LA RE
                generalize dCrash s [] = s8 at *
                go_wp2_with fail
                refine wp_region_plan (fun w' => True) (fun j => !([1, 3, 4].contains j)) (fun j => false)
                  (.of [0, 2, 1, 3, 4]) (by kernel_rfl) (by kernel_rfl) rfl (by kernel_rfl) (by kernel_rfl) trivial ?_
                iterate 2 (apply wpPlan_val; (case ho => rfl); (case hst => rfl); (case hw => rfl); (case hv => intro w' hS; go_simp; first | done | rfl); intro K hK; go_simp; refine hK _ ?_; clear hK K)
                have L9 := hid (L8.out.new (w'' := w8.drew) (below_drewN (Below.refl _ _) 1))
                generalize w8.drew = wd at *
                refine wpPlan_list rfl rfl rfl (fun K hK => ?_)
                refine wpList_step (fun K2 hK2 => ?_)
                go_simp
                refine (homes3_any wd d fp8 420 s8 L9.out.1 R8.out.alive).mono ?_
                rintro e1 w9 ⟨v9, rfl, ho9, hb9⟩
                obtain ⟨np, nc, rfl⟩ := own_shape ho9
                rw [R8.out.now] at ho9
                have N9 := hid ho9
                have LA := hid (L9.out.new hb9)
                clear ho9 hb9
                go_simp
                refine hK2 _ _ ?_
                clear hK2 K2
                simp only [wpList]
                refine hK _ _ (fun _ => trivial) ?_
                clear hK K
                refine wpPlan_list rfl rfl rfl (fun K hK => ?_)
                refine wpList_step (fun K2 hK2 => ?_)
                go_simp
                have hrd : Rd w9 1 (.slice (some ⟨wg, 0, none⟩) 19 19) 19 ((homesL 420 F).map sv) := by
                  have h9 := Rd.blk (off := 0) (n := 19) (c := 19) (size := 1) LA.out.2.1 (Nat.le_refl _) (by simp only [maxLen]; omega) (by rw [List.length_map, LA.out.2.2.1]; omega)
                  rw [List.drop_zero, List.take_of_length_le (by rw [List.length_map, LA.out.2.2.1]; omega)] at h9
                  exact h9
                have hsm := same3_any w9 np (some ⟨wg, 0, none⟩) (420 - 401) 19 nc 19 _ _ (Rd.of_own N9.out) hrd (by omega) (by omega)
                rw [beq_self_eq_true] at hsm
                refine hsm.mono ?_
                rintro e1 w10 ⟨rfl, hb10⟩
                have B10 := hid (BLW.out w10 (LA.out.new hb10).2.2.2.1)
                clear hb10 hsm hrd
                go_simp
                refine hK2 _ _ ?_
                clear hK2 K2
                simp only [wpList]
                refine hK _ _ (fun _ => trivial) ?_
                clear hK K
                refine wpPlan_list rfl rfl rfl (fun K hK => ?_)
                refine wpList_step (fun K2 hK2 => ?_)
                go_simp
                refine hK2 _ _ ?_
                clear hK2 K2
                simp only [wpList]
                refine hK _ _ (fun _ => trivial) ?_
                clear hK K
                refine wpPlan_nil ?_
                simp only [Qn]
                go_wp2_with fail
                go_ret
                exact ⟨rfl, B10.out⟩
end Go.Proofs.Ytplahohlmiphoaa
