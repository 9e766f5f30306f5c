/- triadlaw3.RedoCommits: the walk. -/
import Derived.Test.YtplahohlmiphoaaPuts2
namespace Go.Proofs.Ytplahohlmiphoaa
open Go.RowKit
set_option linter.unusedVariables false

/-- both disks, in one state; F: the blocks that they had; W: a world in which they had them -/
def RPair (F : Nat → Prop) (d x n : Nat) (m : Int) (W wr : World) (s : DS) (fp fx : Nat → Prop) : Prop :=
  Dsk wr d fp n s ∧ XDk wr x fx n s ∧ (∀ k, fp k → ¬ fx k) ∧ (∀ k, fp k → F k ∨ W.heap.size ≤ k) ∧ (∀ k, fx k → F k ∨ W.heap.size ≤ k) ∧ Chg F W wr ∧ s.ops ≤ m

theorem RPair.new {F : Nat → Prop} {d x n : Nat} {m : Int} {W wr w' : World} {s : DS} {fp fx : Nat → Prop} (h : RPair F d x n m W wr s fp fx) (hb : Below wr.heap.size wr w') : RPair F d x n m W w' s fp fx :=
  ⟨h.1.chg (Chg.new hb NoFp) (fun _ _ h => h), h.2.1.chg (Chg.new hb NoFp) (fun _ _ h => h), h.2.2.1, h.2.2.2.1, h.2.2.2.2.1, h.2.2.2.2.2.1.trans (Chg.new hb F) (fun _ _ h => h), h.2.2.2.2.2.2⟩
theorem RPair.one {F : Nat → Prop} {d x n : Nat} {m : Int} {W wr w' : World} {s s' : DS} {fp fx : Nat → Prop} (h : RPair F d x n m W wr s fp fx) (h1 : DskTo wr d fp n s' w') :
    ∃ fp', Dsk w' d fp' n s' ∧ XDk w' x fx n s ∧ (∀ k, fp' k → ¬ fx k) ∧ (∀ k, fp' k → F k ∨ W.heap.size ≤ k) ∧ Chg F W w' := by
  obtain ⟨hd, hx, hdj, hf, hg, hc, ho⟩ := h
  obtain ⟨fp', h2, h3, h4⟩ := h1
  have hxl : ∀ k, fx k → k < wr.heap.size := by
    obtain ⟨_, _, _, _, _, _, _, _, _, _, _, _, _, _, h9, _⟩ := hx
    exact h9
  refine ⟨fp', h2, hx.chg h3 (fun k hk hp => hdj k hp hk), fun k hk hq => ?_, fun k hk => ?_, hc.trans h3 (fun k hk hp => ?_)⟩
  · rcases h4 k hk with h9 | h9
    · exact hdj k h9 hq
    · have := hxl k hq; omega
  · rcases h4 k hk with h9 | h9
    · exact hf k h9
    · exact .inr (Nat.le_trans hc.size h9)
  · rcases hf k hp with h9 | h9
    · exact h9
    · omega
theorem rpair_two {F : Nat → Prop} {d x n : Nat} {m' : Int} {W w1 w2 : World} {s s' : DS} {fp fx : Nat → Prop} (hd : Dsk w1 d fp n s') (hx : XDk w1 x fx n s) (hdj : ∀ k, fp k → ¬ fx k) (hf : ∀ k, fp k → F k ∨ W.heap.size ≤ k) (hg : ∀ k, fx k → F k ∨ W.heap.size ≤ k)
    (hc : Chg F W w1) (h2 : XTo w1 x fx n s' w2) (hm : s'.ops ≤ m') : ∃ fx', RPair F d x n m' W w2 s' fp fx' := by
  obtain ⟨fx', h3, h4, h5⟩ := h2
  have hdl := hd.lt
  refine ⟨fx', hd.chg h4 (fun k hk hp => hdj k hk hp), h3, fun k hk hq => ?_, hf, fun k hk => ?_, hc.trans h4 (fun k hk hp => ?_), hm⟩
  · rcases h5 k hq with h9 | h9
    · exact hdj k hk h9
    · have := hdl k hk; omega
  · rcases h5 k hk with h9 | h9
    · exact hg k h9
    · exact .inr (Nat.le_trans hc.size h9)
  · rcases hg k hp with h9 | h9
    · exact h9
    · omega

/-- a row of pages that may be given to both -/
def RowOk (F : Nat → Prop) (W : World) (v : Value) (zs : List (Int × List UInt8)) : Prop :=
  ∃ a c, v = .slice a zs.length c ∧ IsPuts W F a zs ∧ (¬ zs.length = 0 → PutsOut F a) ∧ zs.length ≤ 410 ∧ (∀ q ∈ zs, q.2.length ≤ 600) ∧ ∀ q ∈ zs, (Lit.int .i64 q.1).wf = true

theorem IsPuts.nil {w : World} {fp : Nat → Prop} {a : Option Addr} : IsPuts w fp a [] := fun i hi => by simp at hi

theorem RowOk.at {F : Nat → Prop} {W wr : World} {v : Value} {zs : List (Int × List UInt8)} (h : RowOk F W v zs) (hc : Chg F W wr) {fp : Nat → Prop} (hf : ∀ k, fp k → F k ∨ W.heap.size ≤ k) :
    ∃ a c, v = .slice a zs.length c ∧ IsPuts wr fp a zs ∧ (¬ zs.length = 0 → PutsOut fp a) ∧ zs.length ≤ 410 ∧ (∀ q ∈ zs, q.2.length ≤ 600) ∧ ∀ q ∈ zs, (Lit.int .i64 q.1).wf = true := by
  obtain ⟨a, c, hv, hp, ho, hl, hb, hw⟩ := h
  by_cases h0 : zs.length = 0
  · obtain rfl : zs = [] := List.eq_nil_of_length_eq_zero h0
    exact ⟨a, c, hv, IsPuts.nil, fun h => absurd rfl h, hl, hb, hw⟩
  · have hpo := ho h0
    refine ⟨a, c, hv, hp.chg hpo hc hf, fun _ ad had hfp => ?_, hl, hb, hw⟩
    rcases hf _ hfp with h9 | h9
    · exact hpo ad had h9
    · obtain ⟨ab, ao, q, p, pc, he, _, k0, _⟩ := hp 0 (by omega)
      rw [he] at had
      injection had with had
      subst had
      have h8 : ab < W.heap.size := World.block_lt_of_cell? W ⟨ab, ao + 0 * 2, none⟩ k0
      have h7 : W.heap.size ≤ ab := h9
      omega

set_option maxRecDepth 100000 in
set_option maxHeartbeats 4000000 in
theorem redoCommits_walk (a0 : Option Addr) (len0 cap0 : Nat) (z0 : List (Int × List UInt8)) (a1 : Option Addr) (len1 cap1 : Nat) (z1 : List (Int × List UInt8)) (a2 : Int) (w : World) (w0 : IsPutsA w a0 len0 cap0 z0) (w1 : IsPutsA w a1 len1 cap1 z1) (w2 : (Lit.int .i64 a2).wf = true) :
    Calls Try.prog 9 #[.slice a0 len0 cap0, .slice a1 len1 cap1, .int .i64 a2] w fun e w' => e = .returned (.bool true) ∧ Below w.heap.size w w' := by
  have H0 := hid w0
  have H1 := hid w1
  have hm0 : 0 ≤ a2 % 40 := Int.emod_nonneg _ (by omega)
  have hm1 : a2 % 40 < 40 := Int.emod_lt_of_pos _ (by omega)
  have E40 : Hid (∀ w, Calls Try.prog 11 #[.int .i64 a2, .int .i64 40] w fun e w' => e = .returned (.int .i64 (a2 % 40)) ∧ w = w') := hid (fun w => within3_any a2 40 w (by omega) (by omega))
  clear w0 w1 w2
  generalize a2 % 40 = M at *
  go_enter Try.func9, Try.ntmps9
  go_wp2_with fail
  refine (known3_any _).mono ?_; rintro e1 wk ⟨rfl, hbk⟩
  have BK := hid hbk
  clear hbk
  go_wp2_with fail
  have few : ∀ (a : Option Addr) (len cap : Nat) (ls : List (Int × List UInt8)), IsPutsA w a len cap ls → Calls Try.prog 15 #[.slice a len cap] wk fun e w' => e = .returned (.bool (fewOf ls)) ∧ wk = w' := fun a len cap ls h =>
    few3_any wk a len cap ls ⟨h.1, h.2.1, fun i hi => by
      obtain ⟨ab, ao, q, h1, h2, pb, cb, k0, k1, h3, h4⟩ := h.2.2 i hi
      have hab : ab < w.heap.size := World.block_lt_of_cell? w ⟨ab, ao + i * 2, none⟩ k0
      exact ⟨ab, ao, q, h1, h2, pb, cb, (BK.out.cell (p := ⟨ab, ao + i * 2, none⟩) hab).trans k0, (BK.out.cell (p := ⟨ab, ao + i * 2 + 1, none⟩) hab).trans k1, h3.new BK.out, h4⟩⟩
  have FEW0 := hid (few _ _ _ _ H0.out)
  have FEW1 := hid (few _ _ _ _ H1.out)
  clear few
  refine FEW0.out.mono ?_
  rintro e1 wx ⟨rfl, hw⟩
  subst hw
  generalize hf0 : fewOf z0 = b0
  cases b0 with
  | false =>
    go_wp2_with fail
    go_ret
    exact ⟨rfl, BK.out⟩
  | true =>
    go_wp2_with fail
    refine FEW1.out.mono ?_
    rintro e1 wx ⟨rfl, hw⟩
    subst hw
    generalize hf1 : fewOf z1 = b1
    cases b1 with
    | false =>
      go_wp2_with fail
      go_ret
      exact ⟨rfl, BK.out⟩
    | true =>
      obtain ⟨hl0, hb0⟩ := fewOf_spec hf0
      obtain ⟨hl1, hb1⟩ := fewOf_spec hf1
      have HB0 := hid hb0
      have HB1 := hid hb1
      clear hf0 hf1 hb0 hb1 FEW0 FEW1
      go_wp2_with fail
      refine (dNew_any _ _).mono ?_; rintro e1 w1 ⟨d, rfl, hd, hb1, hl⟩
      rw [show clampN 420 = 420 from by decide] at hd
      have D1 := hid hd
      have B1 := hid hb1
      clear hd hb1 hl
      go_wp2_with fail
      refine (xNew_any _ _).mono ?_; rintro e1 w2 ⟨x, rfl, hx, hb2, hl⟩
      rw [show clampN 420 = 420 from by decide] at hx
      have D2 := hid (D1.out.chg (Chg.new hb2 NoFp) (fun _ _ h => h))
      have X2 := hid hx
      have B2 := hid hb2
      have BB2 := hid (BK.out.trans ((B1.out.trans (hb2.mono B1.out.size)).mono BK.out.size))
      clear hx hb2 hl D1
      go_wp2_with fail
      refine (good3_any w _ a0 len0 cap0 z0 H0.out BB2.out HB0.out (by omega)).mono ?_
      rintro e1 w3 ⟨gp, gc, gbs, rfl, hpa⟩
      have PA := hid hpa
      clear hpa
      go_wp2_with fail
      have hF : ∃ F : Nat → Prop, (∀ k, F k ↔ (w.heap.size ≤ k ∧ k < w2.heap.size)) := ⟨_, fun k => Iff.rfl⟩
      obtain ⟨F, hF⟩ := hF
      have FF := hid hF
      clear hF
      have LEN0 : Hid (z0.length = len0) := hid H0.out.1
      have LEN1 : Hid (z1.length = len1) := hid H1.out.1
      have h4b : Below w3.heap.size w3 (w3.alloc (Obj.cells #[.slice gp (goodOf z0).length gc, .slice a1 len1 cap1, .slice a0 len0 cap0] 29)) := (Below.refl _ _).alloc (Nat.le_refl _) _
      have h4k : Blk (w3.alloc (Obj.cells #[.slice gp (goodOf z0).length gc, .slice a1 len1 cap1, .slice a0 len0 cap0] 29)) w3.heap.size [.slice gp (goodOf z0).length gc, .slice a1 len1 cap1, .slice a0 len0 cap0] 29 := heap_alloc_new w3 _
      generalize w3.alloc (Obj.cells #[.slice gp (goodOf z0).length gc, .slice a1 len1 cap1, .slice a0 len0 cap0] 29) = w4 at *
      have B4 := hid h4b
      have K4 := hid h4k
      clear h4b h4k
      have BB3 := hid (BB2.out.trans (PA.out.2.2.2.1.mono BB2.out.size))
      have BB4 := hid (BB3.out.trans (B4.out.mono BB3.out.size))
      have SZ : Hid (w2.heap.size ≤ w3.heap.size ∧ w3.heap.size < w4.heap.size) := hid ⟨PA.out.2.2.2.1.size, K4.out.lt⟩
      have R0 : Hid (RowOk F w4 (.slice gp (goodOf z0).length gc) (goodOf z0)) := hid (by
        have hs := goodOf_spec z0
        obtain ⟨p1, p2⟩ := (PA.out.new B4.out).puts2 (fp := F) (fun g hg hf => by have := (FF.out g).1 hf; omega) (fun k hk => by have := (FF.out k).1 hk; omega)
        exact ⟨gp, gc, rfl, p1, fun _ => p2, by omega, fun q hq => by have := hs.2 q hq; omega, fun q hq => wf_small (by have := hs.2 q hq; omega) (by have := hs.2 q hq; omega)⟩)
      have R1 : Hid (RowOk F w4 (.slice a1 len1 cap1) z1) := hid ⟨a1, cap1, by rw [LEN1.out], H1.out.puts BB4.out (fun k hk => ((FF.out k).1 hk).1), fun h0 => H1.out.out (by rw [← LEN1.out]; exact h0) (fun k hk => ((FF.out k).1 hk).1), hl1, HB1.out, H1.out.wf⟩
      have R2 : Hid (RowOk F w4 (.slice a0 len0 cap0) z0) := hid ⟨a0, cap0, by rw [LEN0.out], H0.out.puts BB4.out (fun k hk => ((FF.out k).1 hk).1), fun h0 => H0.out.out (by rw [← LEN0.out]; exact h0) (fun k hk => ((FF.out k).1 hk).1), hl0, HB0.out, H0.out.wf⟩
      have RS : Hid (∀ j : Nat, j < 3 → ∃ v zs, w4.cell? ⟨w3.heap.size, j, none⟩ = some v ∧ RowOk F w4 v zs) := hid (fun j hj => by
        have c0 := K4.out.cell 0
        have c1 := K4.out.cell 1
        have c2 := K4.out.cell 2
        rcases (show j = 0 ∨ j = 1 ∨ j = 2 by omega) with rfl | rfl | rfl
        · exact ⟨_, _, c0, R0.out⟩
        · exact ⟨_, _, c1, R1.out⟩
        · exact ⟨_, _, c2, R2.out⟩)
      have P0 : Hid (RPair F d x 420 (((0 : Nat) : Int) * 2100) w4 w4 (dNew 420) (fun k => wk.heap.size ≤ k ∧ k < w1.heap.size) (fun k => w1.heap.size ≤ k ∧ k < w2.heap.size)) := hid (by
        have hb : Below w2.heap.size w2 w4 := PA.out.2.2.2.1.trans (B4.out.mono SZ.out.1)
        refine ⟨D2.out.chg (Chg.new hb NoFp) (fun _ _ h => h), X2.out.chg (Chg.new hb NoFp) (fun _ _ h => h), fun k h1 h2 => by omega, fun k hk => .inl ((FF.out k).2 ?_), fun k hk => .inl ((FF.out k).2 ?_), Chg.refl _ _, by show (0 : Int) ≤ _; omega⟩
        · have := BK.out.size; have := B2.out.size; omega
        · have := BK.out.size; have := B1.out.size; omega)
      have NB : Hid (¬ F w3.heap.size) := hid (fun h => by have := (FF.out _).1 h; have := SZ.out; omega)
      clear R0 R1 R2 K4 PA D2 X2 B1 B2 H0 H1 HB0 HB1 BK
      go_loopw [10] (fun i wr => ∃ (j : Nat) (s : DS) (fp fx : Nat → Prop), j ≤ 3 ∧ i = .int .i64 j ∧ RPair F d x 420 ((j : Int) * 2100) w4 wr s fp fx) (fun i _ => 4 - (intOf i).toNat)
      case atStart => exact ⟨0, _, _, _, by omega, rfl, P0.out⟩
      case round =>
        obtain ⟨j, s, fp, fx, hj, rfl, hpr⟩ := hrel
        have PR := hid hpr
        have BW : Hid (Below w.heap.size w wr) := hid (BB4.out.trans (PR.out.2.2.2.2.2.1.below (fun k hk => ((FF.out k).1 hk).1) BB4.out.size))
        clear hpr P0
        by_cases hlt : j < 3
        · obtain ⟨v, zs, hcell, hrow⟩ := RS.out j hlt
          have RW := hid hrow
          have HC := hid hcell
          clear hrow hcell
          go_wp2_with fail
          refine (E40.out _).mono ?_; rintro e1 wx ⟨rfl, hw⟩
          subst hw
          go_wp2_with fail
          refine (dStop_any _ d fp 420 s M PR.out.1 (by omega)).mono ?_
          rintro e1 w5 ⟨rfl, hd5, hc5, hs5⟩
          obtain ⟨fp5, hd6, hx6, hdj6, hf6, hch6⟩ := PR.out.one ⟨fp, hd5, hc5, fun _ h => .inl h⟩
          have T5 := hid (And.intro hd6 (And.intro hx6 (And.intro hdj6 (And.intro hf6 hch6))))
          clear hd5 hc5 hs5 hd6 hx6 hdj6 hf6 hch6
          go_wp2_with fail
          refine (E40.out _).mono ?_; rintro e1 wx ⟨rfl, hw⟩
          subst hw
          go_wp2_with fail
          refine (xStop_any _ x fx 420 s M T5.out.2.1 (by omega)).mono ?_
          rintro e1 w6 ⟨rfl, hd5, hc5, hs5⟩
          obtain ⟨fx6, hp6⟩ := rpair_two (m' := (j : Int) * 2100) T5.out.1 T5.out.2.1 T5.out.2.2.1 T5.out.2.2.2.1 PR.out.2.2.2.2.1 T5.out.2.2.2.2 ⟨fx, hd5, hc5, fun _ h => .inl h⟩ PR.out.2.2.2.2.2.2
          clear hd5 hc5 hs5 T5 PR
          generalize { s with stop := max M 0 } = s6 at hp6
          have P6 := hid hp6
          clear hp6
          have CELL : Hid (∀ w', Chg F w4 w' → w'.cell? ⟨w3.heap.size, j, none⟩ = some v) := hid (fun w' hc => (CellTo hc NB.out SZ.out.2).trans HC.out)
          have BW6 : Hid (∀ w', Chg F w4 w' → Below w.heap.size w w') := hid (fun w' hc => BB4.out.trans (hc.below (fun k hk => ((FF.out k).1 hk).1) BB4.out.size))
          obtain ⟨a, c, hv, hpa, hpo, hzl, hzb, hzw⟩ := RW.out.at P6.out.2.2.2.2.2.1 P6.out.2.2.2.1
          subst hv
          have hpd := P6.out.new (w' := w6.drew) (below_drewN (Below.refl _ _) 1)
          have PD := hid hpd
          clear hpd hpa hpo
          go_wp2_with fail
          refine wp_region_plan (fun w' => w'.cell? ⟨w3.heap.size, j, none⟩ = some (.slice a zs.length c)) (fun j => !([5, 11, 16].contains j)) (fun j => false)
            (.of [0, 1, 2, 3, 4, 6, 7, 8, 9, 10, 5, 11, 12, 13, 14, 15, 16, 17, 18]) (by kernel_rfl) (by kernel_rfl) rfl (by kernel_rfl) (by kernel_rfl) (CELL.out _ PD.out.2.2.2.2.2.1) ?_
          iterate 10 (apply wpPlan_val; (case ho => rfl); (case hst => rfl); (case hw => rfl); (case hv => intro w' hS; go_simp; first | done | rfl); intro K hK; go_simp; refine hK _ ?_; clear hK K)
          refine wpPlan_list rfl rfl rfl (fun K hK => ?_)
          refine wpList_step (fun K2 hK2 => ?_)
          go_simp
          have HOPS : Hid (s6.ops ≤ (j : Int) * 2100) := hid PD.out.2.2.2.2.2.2
          obtain ⟨a', c', he, hpa, hpo, _⟩ := RW.out.at PD.out.2.2.2.2.2.1 PD.out.2.2.2.1
          cases he
          refine (com_any w6.drew d fp5 420 s6 a c zs PD.out.1 hpa hpo (by omega) (fun q hq => by have := hzb q hq; omega) hzw (by have := HOPS.out; omega)).mono ?_
          rintro e1 w7 ⟨rfl, hto⟩
          obtain ⟨fp7, hd7, hx7, hdj7, hf7, hch7⟩ := PD.out.one hto
          have T7 := hid (And.intro hd7 (And.intro hx7 (And.intro hdj7 (And.intro hf7 hch7))))
          have FX := hid PD.out.2.2.2.2.1
          have CO := hid (cmt_ops 420 s6 zs (by omega))
          clear hd7 hx7 hdj7 hf7 hch7 hto hpa hpo PD P6
          go_simp
          refine hK2 _ _ ?_
          clear hK2 K2
          simp only [wpList]
          refine hK _ _ (fun _ => CELL.out _ T7.out.2.2.2.2) ?_
          clear hK K
          refine wpPlan_list rfl rfl rfl (fun K hK => ?_)
          refine wpList_step (fun K2 hK2 => ?_)
          go_simp
          obtain ⟨a', c', he, hpa, hpo, _⟩ := RW.out.at T7.out.2.2.2.2 FX.out
          cases he
          refine (xcom_any w7 x fx6 420 s6 a c zs T7.out.2.1 hpa hpo (by omega) (fun q hq => by have := hzb q hq; omega) (by have := HOPS.out; omega)).mono ?_
          rintro e1 w8 ⟨rfl, hto⟩
          obtain ⟨fx8, hp8⟩ := rpair_two (m' := (j : Int) * 2100 + 2010) T7.out.1 T7.out.2.1 T7.out.2.2.1 T7.out.2.2.2.1 FX.out T7.out.2.2.2.2 hto (by have := HOPS.out; have := CO.out; omega)
          have P8 := hid hp8
          clear hp8 hto hpa hpo T7
          generalize cmt 420 s6 zs = R at *
          clear CO
          go_simp
          refine hK2 _ _ ?_
          clear hK2 K2
          simp only [wpList]
          refine hK _ _ (fun _ => CELL.out _ P8.out.2.2.2.2.2.1) ?_
          clear hK K
          iterate 4 (apply wpPlan_val; (case ho => rfl); (case hst => rfl); (case hw => rfl); (case hv => intro w' hS; go_simp; first | done | rfl); intro K hK; go_simp; refine hK _ ?_; clear hK K)
          refine wpPlan_list rfl rfl rfl (fun K hK => ?_)
          refine wpList_step (fun K2 hK2 => ?_)
          go_simp
          refine (same_any w8 d x fp7 fx8 420 R.1 P8.out.1 P8.out.2.1).mono ?_
          rintro e1 w9 ⟨rfl, hb9⟩
          have P9 := hid (P8.out.new hb9)
          clear hb9 P8
          go_simp
          refine hK2 _ _ ?_
          clear hK2 K2
          simp only [wpList]
          refine hK _ _ (fun _ => CELL.out _ P9.out.2.2.2.2.2.1) ?_
          clear hK K
          iterate 2 (apply wpPlan_val; (case ho => rfl); (case hst => rfl); (case hw => rfl); (case hv => intro w' hS; go_simp; first | done | rfl); intro K hK; go_simp; refine hK _ ?_; clear hK K)
          refine wpPlan_nil ?_
          simp only [Qn]
          go_wp2_with fail
          refine (dCrash_any w9 d fp7 420 R.1 (.slice none 0 0) [] P9.out.1 (Rd.nil _ _) (fun h => by simp at h)).mono ?_
          rintro e1 w10 ⟨rfl, hd5, hc5⟩
          obtain ⟨fp10, hd10, hx10, hdj10, hf10, hch10⟩ := P9.out.one ⟨fp7, hd5, hc5, fun _ h => .inl h⟩
          have T10 := hid (And.intro hd10 (And.intro hx10 (And.intro hdj10 (And.intro hf10 hch10))))
          clear hd5 hc5 hd10 hx10 hdj10 hf10 hch10
          go_wp2_with fail
          refine (xCrash_any w10 x fx8 420 R.1 (.slice none 0 0) [] T10.out.2.1 (Rd.nil _ _) (fun h => by simp at h)).mono ?_
          rintro e1 w11 ⟨rfl, hd5, hc5, hs5⟩
          obtain ⟨fx11, hp11⟩ := rpair_two (m' := ((j + 1 : Nat) : Int) * 2100) T10.out.1 T10.out.2.1 T10.out.2.2.1 T10.out.2.2.2.1 P9.out.2.2.2.2.1 T10.out.2.2.2.2 ⟨fx8, hd5, hc5, fun _ h => .inl h⟩ (by have := P9.out.2.2.2.2.2.2; show R.1.ops ≤ _; omega)
          have P11 := hid hp11
          clear hd5 hc5 hs5 hp11 T10 P9
          go_wp2_with fail
          go_roundw
          case rel => exact ⟨j + 1, _, _, _, by omega, by go_num, P11.out⟩
          case measure => simp [intOf]; omega
        · obtain rfl : j = 3 := by omega
          go_wp2_with fail
          go_ret
          exact ⟨rfl, BW.out⟩
end Go.Proofs.Ytplahohlmiphoaa
