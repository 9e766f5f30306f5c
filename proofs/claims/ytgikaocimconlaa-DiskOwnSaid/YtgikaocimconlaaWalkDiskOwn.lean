/- triadlaw2.DiskOwn: the walk. -/
import Derived.Test.YtgikaocimconlaaLaw2
import Derived.Test.YtgikaocimconlaaArgs
namespace Go.Proofs.Ytgikaocimconlaa
open Go.RowKit
set_option linter.unusedVariables false

theorem bs_pad {w : World} {g : Nat} {l : List UInt8} (h : Blk w g (bv (pad l)) 5) (hl : l.length ≤ 512) : Bs w (.slice (some ⟨g, 0, none⟩) l.length 512) l := by
  have h1 := Rd.blk (off := 0) (n := l.length) (c := 512) (size := 1) h hl (by simp only [maxLen]; omega) (by rw [bv_length, pad_length hl]; omega)
  rw [List.drop_zero, Nat.mul_one, bv_take, show (pad l).take l.length = l from by unfold pad; rw [List.take_left' rfl]] at h1
  exact h1

set_option maxRecDepth 100000 in
set_option maxHeartbeats 3200000 in
theorem diskOwn_walk (a0 : Option Addr) (len0 cap0 : Nat) (z0 : List Int) (a1 : Int) (w : World) (w0 : IsRow .u8 w a0 len0 cap0 z0) (w1 : (Lit.int .i64 a1).wf = true) :
    Calls Try.prog 8 #[.slice a0 len0 cap0, .int .i64 a1] w fun e w' => e = .returned (.bool true) ∧ Below w.heap.size w w' := by
  obtain ⟨l, hlen, hb⟩ := w0.bytes
  subst hlen
  have HB := hid hb
  clear w0 w1 hb
  by_cases hl : 1 ≤ l.length ∧ l.length ≤ 100
  rotate_left
  · by_cases hl0 : l.length = 0
    · rw [hl0]
      clear hl hl0 HB
      go_enter Try.func8, Try.ntmps8
      go_wp2_with fail
      refine (known2_any _).mono ?_; rintro e1 w1 ⟨rfl, hb1⟩; have B1 := hid hb1; clear hb1
      go_wp2_with fail
      go_ret
      exact ⟨rfl, B1.out⟩
    · have hl1 : 100 < l.length := by omega
      have hl2 : ¬ l.length = 0 := hl0
      clear hl
      go_enter Try.func8, Try.ntmps8
      go_wp2_with fail
      refine (known2_any _).mono ?_; rintro e1 w1 ⟨rfl, hb1⟩; have B1 := hid hb1; clear hb1
      go_wp2_with fail
      go_ret
      exact ⟨rfl, B1.out⟩
  obtain ⟨hl1, hl2⟩ := hl
  have hl0 : ((l.length : Int) == 0) = false := by rw [beq_eq_false_iff_ne]; omega
  go_enter Try.func8, Try.ntmps8
  go_wp2_with fail
  refine (known2_any _).mono ?_; rintro e1 w1 ⟨rfl, hb1⟩; have B1 := hid hb1; clear hb1
  go_wp2_with fail
  refine (dNew_any _ _).mono ?_; rintro e1 w2 ⟨d, rfl, hd, hb2, hl⟩
  rw [show clampN 3 = 3 from by decide] at hd
  have D1 := hid hd; have B2 := hid (B1.out.trans (hb2.mono B1.out.size))
  clear hd hb2 hl
  go_wp2_with fail
  refine (dNew_any _ _).mono ?_; rintro e1 w3 ⟨x, rfl, hx, hb3, hl⟩
  rw [show clampN 3 = 3 from by decide] at hx
  have B3 := hid (B2.out.trans (hb3.mono B2.out.size))
  obtain ⟨fp, fx, D2, X1, F1, FX⟩ : ∃ fp fx, Hid (Dsk w3 d fp 3 (dNew 3)) ∧ Hid (Dsk w3 x fx 3 (dNew 3)) ∧ Hid (∀ k, fp k → w.heap.size ≤ k) ∧ Hid ((∀ k, fx k → w.heap.size ≤ k) ∧ ∀ k, fp k → ¬ fx k) :=
    ⟨_, _, hid (D1.out.chg (Chg.new hb3 NoFp) (fun _ _ h => h)), hid hx, hid (fun k h => Nat.le_trans B1.out.size h.1), hid ⟨fun k h => Nat.le_trans B2.out.size h.1, fun k h h2 => by have h3 := h.2; have h4 := h2.1; omega⟩⟩
  clear hx hb3 hl D1
  go_wp2_with (at_builtin; refine wpList_append_rd rfl _ _ 24 rfl w3.heap.size 5 _ 1 1 Try.underlying24 infoU8 rfl (by decide) _ 0 [] rfl (own_fresh _ _ _ 0 rfl (by simp [maxLen]) _ (Nat.le_refl _)) _ _ _ rfl ((HB.out.new B3.out).new ((Below.refl _ _).alloc (Nat.le_refl _) _)) (bv_one _) (by simp only [maxLen]; omega) (by omega) (by simp) ?_; intro pp cc w4 hown4 hg4 hb4; have OW4 := hid hown4; have G4 : Hid (Below w3.heap.size w3 w4) := hid (((Below.refl w3.heap.size w3).alloc (Nat.le_refl _) _).grown hg4 (by simp) (by intro k hk; cases hk; exact Nat.le_refl _)); clear hown4 hg4 hb4)
  have hown : w4.ownsRow w3.heap.size 5 1 (.slice pp l.length cc) l.length (bv l) := by
    have h := OW4.out
    rw [Nat.zero_add, List.nil_append] at h
    exact h
  have hbs4 : Bs w4 (.slice pp l.length cc) l := Rd.of_own hown
  obtain ⟨cb, ccur, hpp, hcb, hcblk⟩ : ∃ cb cur, pp = some ⟨cb, 0, none⟩ ∧ w3.heap.size ≤ cb ∧ Blk w4 cb cur 5 := by
    rcases hown.2 with ⟨_, q2⟩ | ⟨g, cap, cur, q1, q2, q3, _⟩
    · omega
    · cases q1
      exact ⟨g, cur.toList, rfl, q2, by rw [Blk, Array.toArray_toList]; exact q3⟩
  subst hpp
  have D4 := hid (D2.out.chg (Chg.new G4.out NoFp) (fun _ _ h => h))
  have X4 := hid (X1.out.chg (Chg.new G4.out NoFp) (fun _ _ h => h))
  have B4 := hid (B3.out.trans (G4.out.mono B3.out.size))
  have CB := hid (show ¬ fp cb ∧ ¬ fx cb ∧ w.heap.size ≤ cb from ⟨fun h => by have h1 : cb < w3.heap.size := D2.out.lt _ h; omega, fun h => by have h1 : cb < w3.heap.size := X1.out.lt _ h; omega, by have := B3.out.size; omega⟩)
  have CK := hid hcblk
  have BS4 := hid hbs4
  clear hown hbs4 hcb hcblk OW4 G4 D2 X1 B3 B2 B1
  have hwr := dWrite_any _ d fp 3 (dNew 3) ((1 : Nat) : Int) _ l D4.out BS4.out (by omega) (by simp [dNew])
  rw [dWrite_calm (n := 3) (s := dNew 3) rfl (by simp [dNew]) (by omega) (by omega)] at hwr
  refine hwr.mono ?_; rintro e1 w5 ⟨rfl, fp5, hd5, hc5, hf5⟩
  generalize hs1 : dStep (dWritten (dNew 3) 1 l) = s1 at hd5
  have hrow1 : row s1.now 1 = pad l := by
    rw [← hs1, dStep_now]
    exact row_set_same (n := 3) (F := (dNew 3).now) (by simp [dNew]) (by omega) (pad_length (by omega))
  have hdead1 : s1.dead = false := by rw [← hs1, dStep_calm (by show (0 : Int) < 1; omega)]; rfl
  have hrowx : row (dNew 3).now 1 = z512 := row_zero (by omega)
  have R1 := hid (And.intro hrow1 (And.intro hdead1 hrowx))
  have D5 := hid hd5
  have X5 := hid (X4.out.chg hc5 (fun k h1 h2 => FX.out.2 k h2 h1))
  have FF := hid (show (∀ q, fp5 q → w.heap.size ≤ q) ∧ (∀ q, fp5 q → ¬ fx q) ∧ ¬ fp5 cb from ⟨fun q hq => by rcases hf5 q hq with h | h; exact F1.out q h; have := B4.out.size; omega,
    fun q hq hx => by rcases hf5 q hq with h | h; exact FX.out.2 q h hx; have := X4.out.lt q hx; omega, fun h => by rcases hf5 cb h with h | h; exact CB.out.1 h; have := CK.out.lt; omega⟩)
  have B5 := hid (B4.out.trans (hc5.below F1.out B4.out.size))
  have CK5 := hid (CK.out.chg hc5 CB.out.1)
  have BS5 := hid (BS4.out.chg hc5 (fun _ g hg _ h => by cases hg; exact CB.out.1 h))
  clear hwr hd5 hc5 hf5 hs1 hrow1 hdead1 hrowx D4 X4 B4 CK BS4
  go_wp2_with fail
  refine (within2_any _ _ _ (by omega) (by omega)).mono ?_; rintro e1 wx ⟨rfl, rfl⟩
  have m1 := Int.emod_nonneg a1 (show (l.length : Int) ≠ 0 by omega); have m2 := Int.emod_lt_of_pos a1 (show (0 : Int) < (l.length : Int) by omega)
  obtain ⟨r, hzr⟩ := Int.eq_ofNat_of_zero_le m1
  have hr : r < l.length := by omega
  rw [hzr]
  have HZ := hid hzr
  clear m1 m2 hzr
  have hcc := (Rd.addr BS5.out (by omega))
  obtain ⟨cb', co', hce, hcells⟩ := hcc
  cases hce
  have hcr := hcells r _ (bv_at hr)
  rw [Nat.zero_add] at hcr
  have fcr : w5.frozen? ⟨cb, r, none⟩ = false := CK5.out.frozen r
  clear hcells
  go_wp2_with fail
  generalize hv : Value.int .u8 ((((l[r]).toNat : Int) + 1) % 256) = nv
  have CS := hid (Chg.setCell (fp := fun q => q = cb) w5 (a := ⟨cb, r, none⟩) rfl nv)
  have D6 := hid (D5.out.chg CS.out (fun q h1 h2 => FF.out.2.2 (by have h3 : q = cb := h2; rw [← h3]; exact h1)))
  have X6 := hid (X5.out.chg CS.out (fun q h1 h2 => CB.out.2.1 (by have h3 : q = cb := h2; rw [← h3]; exact h1)))
  have B6 := hid ((B5.out.setCell (p := ⟨cb, r, none⟩) CB.out.2.2 nv))
  generalize w5.setCell ⟨cb, r, none⟩ nv = w6 at CS D6 X6 B6 ⊢
  clear hv CS D5 X5 B5 CK5 BS5 hcr fcr
  have hrd := dRead_ok w6 d fp5 3 s1 1 D6.out R1.out.2.1 (by omega)
  rw [R1.out.1] at hrd
  refine hrd.mono ?_; rintro e1 w7 ⟨g, rfl, hg, hrow, hb7⟩
  obtain ⟨Y, hyr⟩ : ∃ Y : UInt8, w7.cell? ⟨g, r, none⟩ = some (.int .u8 (Y.toNat : Int)) := by
    have h1 : r < (pad l).length := by rw [pad_length (by omega)]; omega
    exact ⟨(pad l)[r], by rw [hrow.cell, bv_at h1]⟩
  have fyr : w7.frozen? ⟨g, r, none⟩ = false := hrow.frozen r
  have hgn : ¬ fp5 g ∧ ¬ fx g := ⟨fun h => by have := D6.out.lt g h; omega, fun h => by have := X6.out.lt g h; omega⟩
  have D7 := hid (D6.out.chg (Chg.new hb7 NoFp) (fun _ _ h => h))
  have X7 := hid (X6.out.chg (Chg.new hb7 NoFp) (fun _ _ h => h))
  have B7 := hid (B6.out.trans (hb7.mono B6.out.size))
  have HG := hid (show ¬ fp5 g ∧ ¬ fx g ∧ w.heap.size ≤ g from ⟨hgn.1, hgn.2, Nat.le_trans B6.out.size hg⟩)
  clear hrd hrow hb7 hgn hg D6 X6 B6
  go_wp2_with fail
  refine (within2_any _ _ _ (by omega) (by omega)).mono ?_; rintro e1 wx ⟨rfl, rfl⟩
  rw [HZ.out]
  go_wp2_with fail
  generalize hv : Value.int .u8 (((Y.toNat : Int) + 1) % 256) = nv
  have CS := hid (Chg.setCell (fp := fun q => q = g) w7 (a := ⟨g, r, none⟩) rfl nv)
  have D8 := hid (D7.out.chg CS.out (fun q h1 h2 => HG.out.1 (by have h3 : q = g := h2; rw [← h3]; exact h1)))
  have X8 := hid (X7.out.chg CS.out (fun q h1 h2 => HG.out.2.1 (by have h3 : q = g := h2; rw [← h3]; exact h1)))
  have B8 := hid ((B7.out.setCell (p := ⟨g, r, none⟩) HG.out.2.2 nv))
  generalize w7.setCell ⟨g, r, none⟩ nv = w8 at CS D8 X8 B8 ⊢
  clear hv CS D7 X7 B7 hyr fyr
  have hrd := dRead_ok w8 d fp5 3 s1 1 D8.out R1.out.2.1 (by omega)
  rw [R1.out.1] at hrd
  refine hrd.mono ?_; rintro e1 w9 ⟨gz, rfl, hgz, hrowz, hb9⟩
  have Z9 := hid hrowz
  have X9 := hid (X8.out.chg (Chg.new hb9 NoFp) (fun _ _ h => h))
  have B9 := hid (B8.out.trans (hb9.mono B8.out.size))
  clear hrd hrowz hb9 D8 X8 B8 hgz
  go_wp2_with fail
  have hrd := dRead_ok w9 x fx 3 (dNew 3) 1 X9.out rfl (by omega)
  rw [R1.out.2.2] at hrd
  refine hrd.mono ?_; rintro e1 w10 ⟨gw, rfl, hgw, hroww, hb10⟩
  have Z10 := hid (Z9.out.chg (Chg.new hb10 NoFp) (fun h => h))
  have W10 := hid hroww
  have B10 := hid (B9.out.trans (hb10.mono B9.out.size))
  clear hrd hroww hb10 X9 Z9 B9 hgw
  go_wp2_with fail
  refine wp_region_plan (fun w' => Bs w' (.slice a0 l.length cap0) l ∧ Blk w' gz (bv (pad l)) 5 ∧ Blk w' gw (bv z512) 5) (fun j => decide (j < 24)) (fun _ => false)
    (.of [0, 1, 2, 3, 4, 5, 6, 7, 8, 9, 10, 11, 12, 13, 14, 15, 16, 17, 18, 19, 20, 21, 22, 23, 24, 25, 26, 27, 28]) (by kernel_rfl) (by kernel_rfl) rfl (by kernel_rfl) (by kernel_rfl) ?_ ?_
  · exact ⟨(HB.out.new B10.out).chg (Chg.drewN NoFp _ _) (fun _ _ _ _ h => h), Z10.out.chg (Chg.drewN NoFp _ _) (fun h => h), W10.out.chg (Chg.drewN NoFp _ _) (fun h => h)⟩
  apply wpPlan_val
  case ho => rfl
  case hst => rfl
  case hw => rfl
  case hv => intro w' hS; go_simp; first | done | rfl
  intro K hK
  go_simp
  refine hK _ ?_
  clear hK K
  apply wpPlan_val
  case ho => rfl
  case hst => rfl
  case hw => rfl
  case hv => intro w' hS; go_simp; first | done | rfl
  intro K hK
  go_simp
  refine hK _ ?_
  clear hK K
  apply wpPlan_val
  case ho => rfl
  case hst => rfl
  case hw => rfl
  case hv => intro w' hS; go_simp; first | done | rfl
  intro K hK
  go_simp
  refine hK _ ?_
  clear hK K
  apply wpPlan_val
  case ho => rfl
  case hst => rfl
  case hw => rfl
  case hv => intro w' hS; go_simp; first | done | rfl
  intro K hK
  go_simp
  refine hK _ ?_
  clear hK K
  apply wpPlan_val
  case ho => rfl
  case hst => rfl
  case hw => rfl
  case hv => intro w' hS; go_simp; first | done | rfl
  intro K hK
  go_simp
  refine hK _ ?_
  clear hK K
  apply wpPlan_val
  case ho => rfl
  case hst => rfl
  case hw => rfl
  case hv => intro w' hS; go_simp; first | done | rfl
  intro K hK
  go_simp
  refine hK _ ?_
  clear hK K
  apply wpPlan_val
  case ho => rfl
  case hst => rfl
  case hw => rfl
  case hv => intro w' hS; go_simp; first | done | rfl
  intro K hK
  go_simp
  refine hK _ ?_
  clear hK K
  apply wpPlan_val
  case ho => rfl
  case hst => rfl
  case hw => rfl
  case hv => intro w' hS; go_simp; first | done | rfl
  intro K hK
  go_simp
  refine hK _ ?_
  clear hK K
  apply wpPlan_val
  case ho => rfl
  case hst => rfl
  case hw => rfl
  case hv => intro w' hS; go_simp; first | done | rfl
  intro K hK
  go_simp
  refine hK _ ?_
  clear hK K
  apply wpPlan_val
  case ho => rfl
  case hst => rfl
  case hw => rfl
  case hv => intro w' hS; go_simp; first | done | rfl
  intro K hK
  go_simp
  refine hK _ ?_
  clear hK K
  apply wpPlan_val
  case ho => rfl
  case hst => rfl
  case hw => rfl
  case hv => intro w' hS; go_simp; first | done | rfl
  intro K hK
  go_simp
  refine hK _ ?_
  clear hK K
  apply wpPlan_val
  case ho => rfl
  case hst => rfl
  case hw => rfl
  case hv => intro w' hS; go_simp; first | done | rfl
  intro K hK
  go_simp
  refine hK _ ?_
  clear hK K
  apply wpPlan_val
  case ho => rfl
  case hst => rfl
  case hw => rfl
  case hv => intro w' hS; go_simp; first | done | rfl
  intro K hK
  go_simp
  refine hK _ ?_
  clear hK K
  apply wpPlan_val
  case ho => rfl
  case hst => rfl
  case hw => rfl
  case hv => intro w' hS; go_simp; first | done | rfl
  intro K hK
  go_simp
  refine hK _ ?_
  clear hK K
  apply wpPlan_val
  case ho => rfl
  case hst => rfl
  case hw => rfl
  case hv => intro w' hS; go_simp; first | done | rfl
  intro K hK
  go_simp
  refine hK _ ?_
  clear hK K
  apply wpPlan_val
  case ho => rfl
  case hst => rfl
  case hw => rfl
  case hv => intro w' hS; exact exec_slice_to 24 _ _ rfl 5 1 Try.underlying24 infoU8' (some ⟨gz, 0, none⟩) 512 512 l.length .i64 (fun h => by cases h) rfl rfl (by omega)
  intro K hK
  go_simp
  refine hK _ ?_
  clear hK K
  apply wpPlan_val
  case ho => rfl
  case hst => rfl
  case hw => rfl
  case hv => intro w' hS; exact exec_bytes_str 24 9 _ rfl 5 Try.underlying24 Try.underlying5 Try.underlying9 (.slice (some ⟨gz, 0, none⟩) l.length 512) l rfl (bs_pad hS.2.1 (by omega))
  intro K hK
  go_simp
  refine hK _ ?_
  clear hK K
  apply wpPlan_val
  case ho => rfl
  case hst => rfl
  case hw => rfl
  case hv => intro w' hS; go_simp; first | done | rfl
  intro K hK
  go_simp
  refine hK _ ?_
  clear hK K
  apply wpPlan_val
  case ho => rfl
  case hst => rfl
  case hw => rfl
  case hv => intro w' hS; exact exec_bytes_str 24 9 _ rfl 5 Try.underlying24 Try.underlying5 Try.underlying9 (.slice a0 l.length cap0) l rfl hS.1
  intro K hK
  go_simp
  refine hK _ ?_
  clear hK K
  apply wpPlan_val
  case ho => rfl
  case hst => rfl
  case hw => rfl
  case hv => intro w' hS; go_simp; first | done | rfl
  intro K hK
  go_simp
  refine hK _ ?_
  clear hK K
  apply wpPlan_val
  case ho => rfl
  case hst => rfl
  case hw => rfl
  case hv => intro w' hS; go_simp; first | done | rfl
  intro K hK
  go_simp
  refine hK _ ?_
  clear hK K
  apply wpPlan_val
  case ho => rfl
  case hst => rfl
  case hw => rfl
  case hv => intro w' hS; go_simp; first | done | rfl
  intro K hK
  go_simp
  refine hK _ ?_
  clear hK K
  apply wpPlan_val
  case ho => rfl
  case hst => rfl
  case hw => rfl
  case hv => intro w' hS; go_simp; first | done | rfl
  intro K hK
  go_simp
  refine hK _ ?_
  clear hK K
  apply wpPlan_val
  case ho => rfl
  case hst => rfl
  case hw => rfl
  case hv => intro w' hS; exact exec_bytes_str 24 9 _ rfl 5 Try.underlying24 Try.underlying5 Try.underlying9 (.slice (some ⟨gw, 0, none⟩) 512 512) z512 rfl (Bs.blk hS.2.2 z512_length.symm (by simp only [maxLen]; omega))
  intro K hK
  go_simp
  refine hK _ ?_
  clear hK K
  refine wpPlan_list rfl rfl rfl (fun K hK => ?_)
  refine wpList_wanted rfl ?_
  refine wpList_make_blk rfl _ _ 24 rfl 5 _ 1 1 Try.underlying24 infoU8 _ _ _ _ 512 rfl rfl rfl rfl (by omega) (by simp only [maxLen]; omega) ?_
  intro w11 hh hb11 hl11
  rw [made_bytes] at hh
  have M11 := hid hh
  have S11 : Hid (Bs w11 (.slice a0 l.length cap0) l ∧ Blk w11 gz (bv (pad l)) 5 ∧ Blk w11 gw (bv z512) 5) := hid ⟨((HB.out.new B10.out).chg (Chg.drewN NoFp _ 1) (fun _ _ _ _ h => h)).chg (Chg.new hb11 NoFp) (fun _ _ _ _ h => h), (Z10.out.chg (Chg.drewN NoFp _ 1) (fun h => h)).chg (Chg.new hb11 NoFp) (fun h => h), (W10.out.chg (Chg.drewN NoFp _ 1) (fun h => h)).chg (Chg.new hb11 NoFp) (fun h => h)⟩
  have B11 := hid ((below_drewN B10.out 1).trans (hb11.mono B10.out.size))
  clear hh hb11 hl11
  simp only [wpList]
  refine hK _ _ (fun _ => S11.out) ?_
  clear hK K
  refine wpPlan_list rfl rfl rfl (fun K hK => ?_)
  refine wpList_wanted rfl ?_
  refine wpList_bytes_str rfl 24 9 _ rfl 5 Try.underlying24 Try.underlying5 Try.underlying9 _ z512 rfl (Bs.blk M11.out z512_length.symm (by simp only [maxLen]; omega)) ?_
  simp only [wpList]
  refine hK _ _ (fun _ => S11.out) ?_
  clear hK K
  refine wpPlan_list rfl rfl rfl (fun K hK => ?_)
  refine wpList_step (fun K2 hK2 => ?_)
  go_simp
  refine hK2 _ _ ?_
  clear hK2 K2
  simp only [wpList]
  refine hK _ _ (fun _ => S11.out) ?_
  clear hK K
  refine wpPlan_list rfl rfl rfl (fun K hK => ?_)
  refine wpList_step (fun K2 hK2 => ?_)
  go_simp
  refine hK2 _ _ ?_
  clear hK2 K2
  simp only [wpList]
  refine hK _ _ (fun _ => S11.out) ?_
  clear hK K
  refine wpPlan_list rfl rfl rfl (fun K hK => ?_)
  refine wpList_step (fun K2 hK2 => ?_)
  go_simp
  refine hK2 _ _ ?_
  clear hK2 K2
  simp only [wpList]
  refine hK _ _ (fun _ => S11.out) ?_
  clear hK K
  refine wpPlan_nil ?_
  simp only [Qn]
  go_wp2_with fail
  go_ret
  exact ⟨rfl, B11.out⟩
end Go.Proofs.Ytgikaocimconlaa
