/- triadlaw1.CodeReads: the walk. -/
import Derived.Test.YtgikaocimconlaaLaw1
import Derived.Test.YtgikaocimconlaaArgs
namespace Go.Proofs.Ytgikaocimconlaa
open Go.RowKit
set_option linter.unusedVariables false

/-- what both readers hold: the same bytes left, the same error -/
def Both (w : World) (r s : Nat) (ob os : Option Nat) (wr : World) : Prop :=
  ∃ (l : List UInt8) (e : Int), l.length ≤ 500 ∧ 0 ≤ e ∧ e ≤ 1000 ∧ Rdr wr r ob l e ∧ XRd wr s os l e ∧ Below w.heap.size w wr

theorem flErr_bd {e f : Int} (h0 : 0 ≤ e) (h1 : e ≤ 1000) (h2 : 0 ≤ f) (h3 : f ≤ 1000) : 0 ≤ flErr e f ∧ flErr e f ≤ 1000 := by
  unfold flErr; split <;> omega

structure Apart (B r s : Nat) (ob os : Option Nat) : Prop where
  rB : B ≤ r
  sB : B ≤ s
  ne : r ≠ s
  obs : ob ≠ some s
  osr : os ≠ some r

theorem sep_r {w wr w' : World} {r s : Nat} {ob os : Option Nat} {l : List UInt8} {e : Int} (ha : Apart w.heap.size r s ob os) (h : XRd wr s os l e) (hc : Chg (fun k => k = r) wr w') : XRd w' s os l e :=
  h.chg hc (fun hk => ha.ne hk.symm) (fun g hg _ hk => ha.osr (by rw [hg, hk]))
theorem sep_s {w wr w' : World} {r s : Nat} {ob os : Option Nat} {l : List UInt8} {e : Int} (ha : Apart w.heap.size r s ob os) (h : Rdr wr r ob l e) (hc : Chg (fun k => k = s) wr w') : Rdr w' r ob l e :=
  h.chg hc (fun hk => ha.ne hk) (fun g hg _ hk => ha.obs (by rw [hg, hk]))
theorem below_r {w wr w' : World} {r : Nat} (hB : w.heap.size ≤ r) (hb : Below w.heap.size w wr) (hc : Chg (fun k => k = r) wr w') : Below w.heap.size w w' :=
  hb.trans (hc.below (B := w.heap.size) (fun k hk => by rw [hk]; exact hB) hb.size)

set_option maxRecDepth 100000 in
theorem codeReads_walk (a0 : Option Addr) (len0 cap0 : Nat) (z0 : List Int) (a1 : Option Addr) (len1 cap1 : Nat) (z1 : List Int) (w : World) (w0 : IsRow .u8 w a0 len0 cap0 z0) (w1 : IsRow .i64 w a1 len1 cap1 z1) :
    Calls Try.prog 6 #[.slice a0 len0 cap0, .slice a1 len1 cap1] w fun e w' => e = .returned (.bool true) ∧ Below w.heap.size w w' := by
  obtain ⟨l, hlen, hb⟩ := w0.bytes
  subst hlen
  have HB := hid hb
  have HA := hid w1.rd
  have hlm : len1 ≤ 9223372036854775807 := by obtain ⟨_, p, c, he, h1, h2, _⟩ := w1.rd; cases he; simp only [maxLen] at h2; omega
  clear w0 hb
  have hask : ∀ k, k < len1 → ∃ ab ao z, a1 = some ⟨ab, ao, none⟩ ∧ w.cell? ⟨ab, ao + k, none⟩ = some (.int .i64 z) ∧ ab < w.heap.size ∧ -9223372036854775808 ≤ z ∧ z ≤ 9223372036854775807 := by
    intro k hk
    obtain ⟨ab, ao, h1, h2⟩ := Rd.addr HA.out (by omega)
    have hzl : (z1.take len1).length = len1 := by have := HA.out.1; simpa using this
    have hz : k < (z1.take len1).length := by omega
    have h3 := h2 k (.int .i64 ((z1.take len1)[k])) (by rw [List.getElem?_map, List.getElem?_eq_getElem hz]; rfl)
    refine ⟨ab, ao, _, h1, h3, World.block_lt_of_cell? w _ h3, ?_⟩
    have hmem : (z1.take len1)[k] ∈ z1 := List.mem_of_mem_take (List.getElem_mem hz)
    rcases w1 with ⟨_, h0, _⟩ | ⟨x, _, _, _, _, _, hwf⟩
    · omega
    · exact i64_of_wf (hwf _ hmem)
  have HASK := hid hask
  clear w1 hask
  by_cases hl : l.length ≤ 500
  · go_enter Try.func6, Try.ntmps6
    go_wp2_with fail
    refine (known1_any _).mono ?_; rintro e1 w1 ⟨rfl, hb1⟩; have B1 := hid hb1; clear hb1
    go_wp2_with (at_builtin; refine wpList_append_rd rfl _ _ 24 rfl w.heap.size 5 _ 1 1 Try.underlying24 infoU8 rfl (by decide) _ 0 [] rfl (own_fresh _ [] _ 0 rfl (by simp [maxLen]) _ B1.out.size) _ _ _ rfl ((HB.out.new B1.out).chg (Chg.alloc NoFp _ _) (fun _ _ _ _ h => h)) (bv_one _) (by simp only [maxLen]; omega) (by omega) (Nat.le_trans B1.out.size (by simp)) ?_; intro pp cc w2 hown1 hg1 hb1; have B2 : Hid (Below w.heap.size w w2) := (B1.out.alloc B1.out.size _).grown hg1 (Nat.le_trans B1.out.size (by simp)) (by intro k hk; simp [Value.ownBlock, Act.eval] at hk; rw [← hk]; exact B1.out.size); have HW := hid hown1; clear hown1 hg1 hb1)
    have hbs : Bs w2 (.slice pp l.length cc) l := by
      have h := Rd.of_own HW.out
      simpa using h
    refine (New_any _ l _ hbs (by omega)).mono ?_; rintro e1 w3 ⟨r, rfl, hb3, hr1, ob, hob, hr⟩; have B3 := hid (B2.out.trans (hb3.mono B2.out.size)); have R1 := hid (Nat.le_trans B2.out.size hr1); have OB := hid hob; have R3 := hid hr; clear hb3 hr1 hob hr hbs HW
    go_wp2_with fail
    refine (xNew_any _ l _ (HB.out.new B3.out) (by omega)).mono ?_; rintro e1 w4 ⟨s, rfl, hb4, hs1, os, hos, hs⟩
    have hap : Apart w.heap.size r s ob os := by
      have r3 : r < w3.heap.size := by obtain ⟨v, h, _⟩ := R3.out; exact (Array.getElem?_eq_some_iff.1 h).1
      refine ⟨R1.out, Nat.le_trans B3.out.size hs1, by omega, ?_, ?_⟩
      · intro h; have := (OB.out _ h).2; omega
      · intro h
        obtain ⟨h1, h2⟩ := hos _ h
        have := Rd.lt HB.out h2 (by omega) _ h1
        have := R1.out
        omega
    have hboth : Both w r s ob os w4 := ⟨l, 0, hl, by omega, by omega, R3.out.chg (Chg.new hb4 NoFp) (fun h => h) (fun _ _ _ h => h), hs, B3.out.trans (hb4.mono B3.out.size)⟩
    have HBO := hid hboth
    have HAP := hid hap
    clear hboth hap hb4 hs1 hos hs OB R3 B3 R1 B2 B1 HB
    go_wp2_with fail
    go_loopw [7] (fun i wr => ∃ k : Nat, k ≤ 30 ∧ k ≤ len1 ∧ i = .int .i64 k ∧ Both w r s ob os wr) (fun i _ => 31 - (intOf i).toNat)
    case atStart => exact ⟨0, by omega, by omega, rfl, HBO.out⟩
    case round =>
      obtain ⟨k, hk, hk1, rfl, hbo⟩ := hrel
      have HBO2 := hid hbo
      clear HBO hbo
      by_cases hlt : k < len1 ∧ k < 30
      · obtain ⟨hlt1, hlt2⟩ := hlt
        obtain ⟨ab, ao, z, rfl, hcz, hlt, hz1, hz2⟩ := HASK.out k hlt1
        obtain ⟨l2, e2, hl1, he1, he2, hr2, hx2, hb2⟩ := HBO2.out
        have hcz2 : wr.cell? ⟨ab, ao + k, none⟩ = some (.int .i64 z) := (hb2.cell (p := ⟨ab, ao + k, none⟩) hlt).trans hcz
        have R := hid hr2
        have X := hid hx2
        have B := hid hb2
        clear hcz hr2 hx2 hb2 HBO2
        go_wp2_with fail
        refine (within1_any _ _ _ (by omega) (by omega)).mono ?_; rintro e1 wx ⟨rfl, rfl⟩
        have m1 := Int.emod_nonneg z (show (7 : Int) ≠ 0 by omega); have m2 := Int.emod_lt_of_pos z (show (0 : Int) < 7 by omega); generalize z % 7 = y at m1 m2 ⊢
        rcases (show y = 0 ∨ y = 1 ∨ y = 2 ∨ y = 3 ∨ y = 4 ∨ y = 5 ∨ y = 6 by omega) with rfl | rfl | rfl | rfl | rfl | rfl | rfl
        · go_wp2_with fail
          refine (rInt_any r ob l2 e2 _ R.out (by omega) he1 he2).mono ?_; rintro e1 w5 ⟨rfl, hc, hr⟩; have X5 := hid (sep_r HAP.out X.out hc); have B5 := hid (below_r HAP.out.rB B.out hc); have R5 := hid hr; clear hc hr R X B
          go_wp2_with fail
          refine (xInt_any s os l2 e2 _ X5.out he1 he2).mono ?_; rintro e1 w6 ⟨rfl, hc, hx⟩; have R6 := hid (sep_s HAP.out R5.out hc); have B6 := hid (below_r HAP.out.sB B5.out hc); have X6 := hid hx; clear hc hx R5 X5 B5
          have hl2 : (tkLeft l2 e2 8).length ≤ 500 := Nat.le_trans (tkLeft_length _ _ _) hl1; obtain ⟨he3, he4⟩ := tkErr_bd (l := l2) (n := 8) he1 he2
          generalize tkLeft l2 e2 8 = l3 at R6 X6 hl2
          generalize tkErr l2 e2 8 = e3 at R6 X6 he3 he4
          go_wp2_with fail
          refine (rEnd_any r ob _ _ _ R6.out (by omega)).mono ?_; rintro e1 wx ⟨rfl, rfl⟩
          go_wp2_with fail
          refine (xEnd_any s os _ _ _ X6.out).mono ?_; rintro e1 wx ⟨rfl, nn, rfl⟩
          go_wp2_with fail
          go_roundw
          case rel => exact ⟨k + 1, by omega, by omega, by go_num, _, _, hl2, he3, he4, Rdr.chg R6.out (Chg.drewN NoFp _ _) (fun h => h) (fun _ _ _ h => h), XRd.chg X6.out (Chg.drewN NoFp _ _) (fun h => h) (fun _ _ _ h => h), below_drewN B6.out _⟩
          case measure => simp [intOf]; omega
        · go_wp2_with fail
          refine (rInt_any r ob l2 e2 _ R.out (by omega) he1 he2).mono ?_; rintro e1 w5 ⟨rfl, hc, hr⟩; have X5 := hid (sep_r HAP.out X.out hc); have B5 := hid (below_r HAP.out.rB B.out hc); have R5 := hid hr; clear hc hr R X B
          go_wp2_with fail
          refine (xInt_any s os l2 e2 _ X5.out he1 he2).mono ?_; rintro e1 w6 ⟨rfl, hc, hx⟩; have R6 := hid (sep_s HAP.out R5.out hc); have B6 := hid (below_r HAP.out.sB B5.out hc); have X6 := hid hx; clear hc hx R5 X5 B5
          have hl2 : (tkLeft l2 e2 8).length ≤ 500 := Nat.le_trans (tkLeft_length _ _ _) hl1; obtain ⟨he3, he4⟩ := tkErr_bd (l := l2) (n := 8) he1 he2
          generalize tkLeft l2 e2 8 = l3 at R6 X6 hl2
          generalize tkErr l2 e2 8 = e3 at R6 X6 he3 he4
          go_wp2_with fail
          refine (rEnd_any r ob _ _ _ R6.out (by omega)).mono ?_; rintro e1 wx ⟨rfl, rfl⟩
          go_wp2_with fail
          refine (xEnd_any s os _ _ _ X6.out).mono ?_; rintro e1 wx ⟨rfl, nn, rfl⟩
          go_wp2_with fail
          go_roundw
          case rel => exact ⟨k + 1, by omega, by omega, by go_num, _, _, hl2, he3, he4, Rdr.chg R6.out (Chg.drewN NoFp _ _) (fun h => h) (fun _ _ _ h => h), XRd.chg X6.out (Chg.drewN NoFp _ _) (fun h => h) (fun _ _ _ h => h), below_drewN B6.out _⟩
          case measure => simp [intOf]; omega
        · go_wp2_with fail
          refine (rByte_any r ob l2 e2 _ R.out (by omega) he1 he2).mono ?_; rintro e1 w5 ⟨rfl, hc, hr⟩; have X5 := hid (sep_r HAP.out X.out hc); have B5 := hid (below_r HAP.out.rB B.out hc); have R5 := hid hr; clear hc hr R X B
          go_wp2_with fail
          refine (xByte_any s os l2 e2 _ X5.out he1 he2).mono ?_; rintro e1 w6 ⟨rfl, hc, hx⟩; have R6 := hid (sep_s HAP.out R5.out hc); have B6 := hid (below_r HAP.out.sB B5.out hc); have X6 := hid hx; clear hc hx R5 X5 B5
          have hl2 : (tkLeft l2 e2 1).length ≤ 500 := Nat.le_trans (tkLeft_length _ _ _) hl1; obtain ⟨he3, he4⟩ := tkErr_bd (l := l2) (n := 1) he1 he2
          generalize tkLeft l2 e2 1 = l3 at R6 X6 hl2
          generalize tkErr l2 e2 1 = e3 at R6 X6 he3 he4
          go_wp2_with fail
          refine (rEnd_any r ob _ _ _ R6.out (by omega)).mono ?_; rintro e1 wx ⟨rfl, rfl⟩
          go_wp2_with fail
          refine (xEnd_any s os _ _ _ X6.out).mono ?_; rintro e1 wx ⟨rfl, nn, rfl⟩
          go_wp2_with fail
          go_roundw
          case rel => exact ⟨k + 1, by omega, by omega, by go_num, _, _, hl2, he3, he4, Rdr.chg R6.out (Chg.drewN NoFp _ _) (fun h => h) (fun _ _ _ h => h), XRd.chg X6.out (Chg.drewN NoFp _ _) (fun h => h) (fun _ _ _ h => h), below_drewN B6.out _⟩
          case measure => simp [intOf]; omega
        · go_wp2_with fail
          refine (rByte_any r ob l2 e2 _ R.out (by omega) he1 he2).mono ?_; rintro e1 w5 ⟨rfl, hc, hr⟩; have X5 := hid (sep_r HAP.out X.out hc); have B5 := hid (below_r HAP.out.rB B.out hc); have R5 := hid hr; clear hc hr R X B
          go_wp2_with fail
          refine (xByte_any s os l2 e2 _ X5.out he1 he2).mono ?_; rintro e1 w6 ⟨rfl, hc, hx⟩; have R6 := hid (sep_s HAP.out R5.out hc); have B6 := hid (below_r HAP.out.sB B5.out hc); have X6 := hid hx; clear hc hx R5 X5 B5
          have hl2 : (tkLeft l2 e2 1).length ≤ 500 := Nat.le_trans (tkLeft_length _ _ _) hl1; obtain ⟨he3, he4⟩ := tkErr_bd (l := l2) (n := 1) he1 he2
          generalize tkLeft l2 e2 1 = l3 at R6 X6 hl2
          generalize tkErr l2 e2 1 = e3 at R6 X6 he3 he4
          go_wp2_with fail
          refine (rEnd_any r ob _ _ _ R6.out (by omega)).mono ?_; rintro e1 wx ⟨rfl, rfl⟩
          go_wp2_with fail
          refine (xEnd_any s os _ _ _ X6.out).mono ?_; rintro e1 wx ⟨rfl, nn, rfl⟩
          go_wp2_with fail
          go_roundw
          case rel => exact ⟨k + 1, by omega, by omega, by go_num, _, _, hl2, he3, he4, Rdr.chg R6.out (Chg.drewN NoFp _ _) (fun h => h) (fun _ _ _ h => h), XRd.chg X6.out (Chg.drewN NoFp _ _) (fun h => h) (fun _ _ _ h => h), below_drewN B6.out _⟩
          case measure => simp [intOf]; omega
        · go_wp2_with fail
          refine (rText_any r ob l2 e2 _ R.out (by omega) he1 he2).mono ?_; rintro e1 w5 ⟨rfl, hc, hr⟩; have X5 := hid (sep_r HAP.out X.out hc); have B5 := hid (below_r HAP.out.rB B.out hc); have R5 := hid hr; clear hc hr R X B
          go_wp2_with fail
          refine (xText_any s os l2 e2 _ X5.out he1 he2).mono ?_; rintro e1 w6 ⟨rfl, hc, hx⟩; have R6 := hid (sep_s HAP.out R5.out hc); have B6 := hid (below_r HAP.out.sB B5.out hc); have X6 := hid hx; clear hc hx R5 X5 B5
          have hl2 : (tkLeft (tkLeft l2 e2 2) (tkErr l2 e2 2) (num (tkGot l2 e2 2))).length ≤ 500 := Nat.le_trans (tkLeft_length _ _ _) (Nat.le_trans (tkLeft_length _ _ _) hl1); have hq := tkErr_bd (l := l2) (n := 2) he1 he2; obtain ⟨he3, he4⟩ := tkErr_bd (l := tkLeft l2 e2 2) (n := num (tkGot l2 e2 2)) hq.1 hq.2; clear hq
          generalize tkLeft (tkLeft l2 e2 2) (tkErr l2 e2 2) (num (tkGot l2 e2 2)) = l3 at R6 X6 hl2
          generalize tkErr (tkLeft l2 e2 2) (tkErr l2 e2 2) (num (tkGot l2 e2 2)) = e3 at R6 X6 he3 he4
          go_wp2_with fail
          refine (rEnd_any r ob _ _ _ R6.out (by omega)).mono ?_; rintro e1 wx ⟨rfl, rfl⟩
          go_wp2_with fail
          refine (xEnd_any s os _ _ _ X6.out).mono ?_; rintro e1 wx ⟨rfl, nn, rfl⟩
          go_wp2_with fail
          go_roundw
          case rel => exact ⟨k + 1, by omega, by omega, by go_num, _, _, hl2, he3, he4, Rdr.chg R6.out (Chg.drewN NoFp _ _) (fun h => h) (fun _ _ _ h => h), XRd.chg X6.out (Chg.drewN NoFp _ _) (fun h => h) (fun _ _ _ h => h), below_drewN B6.out _⟩
          case measure => simp [intOf]; omega
        · go_wp2_with fail
          refine (rText_any r ob l2 e2 _ R.out (by omega) he1 he2).mono ?_; rintro e1 w5 ⟨rfl, hc, hr⟩; have X5 := hid (sep_r HAP.out X.out hc); have B5 := hid (below_r HAP.out.rB B.out hc); have R5 := hid hr; clear hc hr R X B
          go_wp2_with fail
          refine (xText_any s os l2 e2 _ X5.out he1 he2).mono ?_; rintro e1 w6 ⟨rfl, hc, hx⟩; have R6 := hid (sep_s HAP.out R5.out hc); have B6 := hid (below_r HAP.out.sB B5.out hc); have X6 := hid hx; clear hc hx R5 X5 B5
          have hl2 : (tkLeft (tkLeft l2 e2 2) (tkErr l2 e2 2) (num (tkGot l2 e2 2))).length ≤ 500 := Nat.le_trans (tkLeft_length _ _ _) (Nat.le_trans (tkLeft_length _ _ _) hl1); have hq := tkErr_bd (l := l2) (n := 2) he1 he2; obtain ⟨he3, he4⟩ := tkErr_bd (l := tkLeft l2 e2 2) (n := num (tkGot l2 e2 2)) hq.1 hq.2; clear hq
          generalize tkLeft (tkLeft l2 e2 2) (tkErr l2 e2 2) (num (tkGot l2 e2 2)) = l3 at R6 X6 hl2
          generalize tkErr (tkLeft l2 e2 2) (tkErr l2 e2 2) (num (tkGot l2 e2 2)) = e3 at R6 X6 he3 he4
          go_wp2_with fail
          refine (rEnd_any r ob _ _ _ R6.out (by omega)).mono ?_; rintro e1 wx ⟨rfl, rfl⟩
          go_wp2_with fail
          refine (xEnd_any s os _ _ _ X6.out).mono ?_; rintro e1 wx ⟨rfl, nn, rfl⟩
          go_wp2_with fail
          go_roundw
          case rel => exact ⟨k + 1, by omega, by omega, by go_num, _, _, hl2, he3, he4, Rdr.chg R6.out (Chg.drewN NoFp _ _) (fun h => h) (fun _ _ _ h => h), XRd.chg X6.out (Chg.drewN NoFp _ _) (fun h => h) (fun _ _ _ h => h), below_drewN B6.out _⟩
          case measure => simp [intOf]; omega
        · go_wp2_with fail
          refine (within1_any _ _ _ (by omega) (by omega)).mono ?_; rintro e1 wx ⟨rfl, rfl⟩
          have f1 := Int.emod_nonneg (z.tdiv 7) (show (20 : Int) ≠ 0 by omega); have f2 := Int.emod_lt_of_pos (z.tdiv 7) (show (0 : Int) < 20 by omega)
          have HWI := hid (fun wx => within1_any (z.tdiv 7) 20 wx (by omega) (by omega))
          generalize z.tdiv 7 % 20 = f at f1 f2 HWI ⊢
          go_wp2_with fail
          refine (rFail_any r ob l2 e2 f _ R.out).mono ?_; rintro e1 w5 ⟨rfl, hc, hr⟩; have X5 := hid (sep_r HAP.out X.out hc); have B5 := hid (below_r HAP.out.rB B.out hc); have R5 := hid hr
          have hcz5 : w5.cell? ⟨ab, ao + k, none⟩ = some (.int .i64 z) := by
            have hne : ¬ (ab = r) := by have := HAP.out.rB; omega
            rw [← hcz2]
            exact World.cell?_of_block (w := wr) (a := ⟨ab, ao + k, none⟩) (hc.block ab (World.block_lt_of_cell? wr _ hcz2) hne)
          clear hc hr R X B
          go_wp2_with fail
          refine (HWI.out _).mono ?_; rintro e1 wx ⟨rfl, rfl⟩
          go_wp2_with fail
          refine (xFail_any s os l2 e2 f _ X5.out).mono ?_; rintro e1 w6 ⟨rfl, hc, hx⟩; have R6 := hid (sep_s HAP.out R5.out hc); have B6 := hid (below_r HAP.out.sB B5.out hc); have X6 := hid hx; clear hc hx R5 X5 B5 HWI
          have hl2 := hl1
          obtain ⟨he3, he4⟩ := flErr_bd he1 he2 f1 (show f ≤ 1000 by omega)
          generalize flErr e2 f = e3 at R6 X6 he3 he4
          go_wp2_with fail
          refine (rEnd_any r ob _ _ _ R6.out (by omega)).mono ?_; rintro e1 wx ⟨rfl, rfl⟩
          go_wp2_with fail
          refine (xEnd_any s os _ _ _ X6.out).mono ?_; rintro e1 wx ⟨rfl, nn, rfl⟩
          go_wp2_with fail
          go_roundw
          case rel => exact ⟨k + 1, by omega, by omega, by go_num, _, _, hl2, he3, he4, Rdr.chg R6.out (Chg.drewN NoFp _ _) (fun h => h) (fun _ _ _ h => h), XRd.chg X6.out (Chg.drewN NoFp _ _) (fun h => h) (fun _ _ _ h => h), below_drewN B6.out _⟩
          case measure => simp [intOf]; omega
      · obtain ⟨l2, e2, hl1, he1, he2, hr2, hx2, hb2⟩ := HBO2.out
        have R := hid hr2
        have X := hid hx2
        have B := hid hb2
        clear hr2 hx2 hb2 HBO2 HASK
        by_cases hlt1 : k < len1
        · have hk30 : ¬ k < 30 := by omega
          go_wp2_with fail
          refine (rEnd_any r ob _ _ _ R.out (by omega)).mono ?_; rintro e1 wx ⟨rfl, rfl⟩
          go_wp2_with fail
          refine (xEnd_any s os _ _ _ X.out).mono ?_; rintro e1 wx ⟨rfl, nn, rfl⟩
          go_wp2_with fail
          go_ret
          exact ⟨by simp, below_drewN B.out _⟩
        · go_wp2_with fail
          refine (rEnd_any r ob _ _ _ R.out (by omega)).mono ?_; rintro e1 wx ⟨rfl, rfl⟩
          go_wp2_with fail
          refine (xEnd_any s os _ _ _ X.out).mono ?_; rintro e1 wx ⟨rfl, nn, rfl⟩
          go_wp2_with fail
          go_ret
          exact ⟨by simp, below_drewN B.out _⟩
  · go_enter Try.func6, Try.ntmps6
    go_wp2_with fail
    refine (known1_any _).mono ?_; rintro e1 w1 ⟨rfl, hb1⟩; have B1 := hid hb1; clear hb1
    go_wp2_with fail
    go_ret
    exact ⟨rfl, B1.out⟩
end Go.Proofs.Ytgikaocimconlaa
