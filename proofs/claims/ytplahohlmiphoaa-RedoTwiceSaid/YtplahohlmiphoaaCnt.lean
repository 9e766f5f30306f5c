/- bytes.Equal, bytes.HasPrefix; redo.count. -/
import Derived.Test.YtplahohlmiphoaaCom
namespace Go.Proofs.Ytplahohlmiphoaa
open Go.RowKit
set_option linter.unusedVariables false

theorem eq_any (w : World) (v v' : Value) (l l' : List UInt8) (h : Bs w v l) (h' : Bs w v' l') :
    Calls Try.prog 62 #[v, v'] w fun e w' => e = .returned (.bool (l == l')) ∧ w' = w := by
  have H := hid h
  have H' := hid h'
  clear h h'
  go_enter Try.func62, Try.ntmps62
  go_wp2_with (first
    | (refine wpList_bytes_str rfl 26 9 _ rfl 5 Try.underlying26 Try.underlying5 Try.underlying9 _ l rfl H.out ?_)
    | (refine wpList_bytes_str rfl 26 9 _ rfl 5 Try.underlying26 Try.underlying5 Try.underlying9 _ l' rfl H'.out ?_))
  go_ret
  exact ⟨rfl, rfl⟩

theorem slice_hi (w : World) (p : Option Addr) (n cap hi : Nat) (l : List UInt8) (h : Bs w (.slice p n cap) l) (hh : hi ≤ l.length) :
    ∃ p' c', (Instr.sliceAt 26 (.slice p n cap) none (some (.int .i64 (hi : Int))) none).run Try.prog w = .ok (.slice p' hi c') w ∧ Bs w (.slice p' hi c') (l.take hi) := by
  obtain ⟨hl, p0, c0, he, h3, h4, h5, h6⟩ := h
  cases he
  have hr := run_slice_rd (P := Try.prog) w 26 5 1 Try.underlying26 infoU8' p l.length cap 0 hi h5 (by omega) (by omega) none (some (.int .i64 (hi : Int))) (.inl ⟨rfl, rfl⟩) (.inr ⟨_, rfl⟩)
  have hs := (slice_rd_of w 1 p l.length cap (bv l) ⟨hl, _, _, rfl, h3, h4, h5, h6⟩ 0 hi (by omega) hh).1
  refine ⟨_, _, hr, ?_⟩
  unfold Bs
  rw [List.length_take, Nat.min_eq_left hh, ← bv_take]
  simpa using hs

theorem pre_any (w : World) (v v' : Value) (l l' : List UInt8) (h : Bs w v l) (h' : Bs w v' l') (hl : l'.length ≤ l.length) :
    Calls Try.prog 59 #[v, v'] w fun e w' => e = .returned (.bool (l.take l'.length == l')) ∧ w' = w := by
  obtain ⟨hlen, p, cap, rfl, h1, h2, h3, h4⟩ := id h
  obtain ⟨hlen', p', cap', rfl, h1', h2', h3', h4'⟩ := id h'
  obtain ⟨p2, c2, hsl, hb2⟩ := slice_hi w p l.length cap l'.length l h hl
  have HE := hid (eq_any w _ _ _ _ hb2 h')
  have hd : decide ((l'.length : Int) ≤ (l.length : Int)) = true := by simp; omega
  clear h h' hlen hlen' h3 h4 h3' h4' hb2
  go_enter Try.func59, Try.ntmps59
  go_wp2_with fail
  refine HE.out.mono ?_
  rintro e1 wx ⟨rfl, hw⟩
  subst hw
  go_wp2_with fail
  go_ret
  exact ⟨rfl, rfl⟩

/-- the number that stands at a log's head -/
def headN (b : List UInt8) : Int := wrap64 (num ((b.drop 8).take 8))
def cntOf (n : Nat) (b : List UInt8) : Int := if (b.take 8 == markB) = true ∧ 1 ≤ headN b ∧ headN b ≤ 400 ∧ headN b < (n : Int) then headN b else 0

set_option maxRecDepth 100000 in
theorem count_any (w : World) (d : Nat) (fp : Nat → Prop) (n : Nat) (s : DS) (h : Dsk w d fp n s) :
    Calls Try.prog 42 #[.pointer (some ⟨d, 0, none⟩)] w fun e w' => e = .returned (.tuple #[.int .i64 (if s.dead then 0 else cntOf n (row s.now 0)), .int .i64 (if s.dead then 13 else 0)]) ∧ Below w.heap.size w w' := by
  have H := hid h
  clear h
  rcases Bool.eq_false_or_eq_true s.dead with hdead | hdead
  · have HR := hid (dRead_err w d fp n s 0 H.out (.inl hdead))
    rw [if_pos hdead, if_pos hdead]
    have HD := hid hdead
    clear hdead
    go_enter Try.func42, Try.ntmps42
    go_wp2_with fail
    have h1 := HR.out
    rw [if_pos HD.out] at h1
    refine h1.mono ?_
    rintro e1 wx ⟨rfl, hw⟩
    subst hw
    go_wp2_with fail
    go_ret2
    exact ⟨rfl, Below.refl _ _⟩
  · have hn : 0 < n := H.out.ok.n1
    have HR := hid (dRead_ok w d fp n s 0 H.out hdead hn)
    have HL := hid (row_length H.out.ok.now hn)
    rw [if_neg (by rw [hdead]; decide), if_neg (by rw [hdead]; decide)]
    clear hdead
    generalize row s.now 0 = R at *
    go_enter Try.func42, Try.ntmps42
    go_wp2_with fail
    refine HR.out.mono ?_
    rintro e1 w1 ⟨g, rfl, hg, hblk, hb1⟩
    have BS := hid (Bs.blk hblk HL.out.symm (by simp [maxLen]))
    have B1 := hid hb1
    have G1 := hid hg
    clear hblk hb1 hg HR
    have hcv := mark_lit w1
    go_wp2_with fail
    have hba : Below w1.heap.size w1 (w1.alloc (Obj.cells (bv markB).toArray 5 (8, 9))) := (Below.refl _ _).alloc (Nat.le_refl _) _
    have hbk := mark_read w1
    generalize w1.alloc (Obj.cells (bv markB).toArray 5 (8, 9)) = wa at *
    have BA := hid hba
    have BSA := hid (BS.out.new hba)
    have BWA := hid (B1.out.trans (hba.mono B1.out.size))
    clear hba hcv
    have hp := pre_any wa _ _ R markB BSA.out hbk (by rw [HL.out]; decide)
    have HPRE := hid hp
    clear hp hbk
    refine HPRE.out.mono ?_
    rintro e1 wx ⟨rfl, hw⟩
    subst hw
    clear HPRE
    rw [show markB.length = 8 from rfl]
    generalize hm : (R.take 8 == markB) = m
    have HM := hid hm
    clear hm
    cases m with
    | false =>
      have HC : Hid (cntOf n R = 0) := hid (by unfold cntOf; rw [HM.out]; simp)
      go_wp2_with fail
      go_ret2
      rw [HC.out]
      exact ⟨rfl, BWA.out⟩
    | true =>
      go_wp2_with (refine wpList_slice_rd rfl 26 _ _ _ rfl 5 1 Try.underlying26 infoU8' _ 512 (bv R) rfl ?hrd 8 16 ⟨_, _, rfl, by decide, rfl⟩ ⟨_, _, rfl, by decide, rfl⟩ (by omega) (by omega) ?_; (case hrd => have h := BSA.out; unfold Bs at h; rw [HL.out] at h; exact h); intro p2 c2 hrd2 hob2; have R2 := hid hrd2; clear hrd2 hob2)
      have hb2 : Bs wx (.slice p2 8 c2) ((R.drop 8).take 8) := by
        have h : Rd wx 1 (.slice p2 8 c2) 8 (((bv R).drop 8).take 8) := R2.out
        rw [bv_drop, bv_take] at h
        have hl : ((R.drop 8).take 8).length = 8 := by simp [HL.out]
        unfold Bs
        rw [hl]; exact h
      have HB2 := hid hb2
      clear hb2
      have hl8 : ((R.drop 8).take 8).length = 8 := by simp [HL.out]
      refine (New_any _ _ wx HB2.out (by rw [hl8]; omega)).mono ?_
      rintro e1 w3 ⟨r, rfl, hb3, hr3, ob, hob, hrdr⟩
      have B3 := hid (BWA.out.trans (hb3.mono BWA.out.size))
      have RD := hid hrdr
      have R3 : Hid (w.heap.size ≤ r) := hid (Nat.le_trans BWA.out.size hr3)
      clear hob hr3 hb3 hrdr
      go_wp2_with fail
      refine (rInt_any r ob _ 0 w3 RD.out (by rw [hl8]; omega) (by omega) (by omega)).mono ?_
      rintro e1 w4 ⟨rfl, hch, _⟩
      have B4 := hid (B3.out.trans (hch.below (B := w.heap.size) (fun k hk => by rw [hk]; exact R3.out) B3.out.size))
      have hhn : wrap64 (num (tkGot ((R.drop 8).take 8) 0 8) : Int) = headN R := by
        unfold headN tkGot
        rw [if_neg (by decide), if_neg (by rw [hl8]; decide), List.take_of_length_le (by rw [hl8]; omega)]
      rw [hhn]
      have D4 := hid (H.out.chg (Chg.new B4.out NoFp) (fun _ _ h => h))
      clear hch hhn hl8
      have HC : Hid (cntOf n R = if 1 ≤ headN R ∧ headN R ≤ 400 ∧ headN R < (n : Int) then headN R else 0) := hid (by unfold cntOf; rw [HM.out]; simp)
      generalize headN R = N at *
      by_cases h1 : N < 1
      · have hd1 : decide (N < 1) = true := by simpa using h1
        have HC2 : Hid (cntOf n R = 0) := hid (by rw [HC.out, if_neg (by omega)])
        clear h1
        go_wp2_with fail
        go_ret2
        rw [HC2.out]
        exact ⟨rfl, B4.out⟩
      · have hd1 : decide (N < 1) = false := by simpa using h1
        by_cases h2 : 400 < N
        · have hd2 : decide (400 < N) = true := by simpa using h2
          have HC2 : Hid (cntOf n R = 0) := hid (by rw [HC.out, if_neg (by omega)])
          clear h1 h2
          go_wp2_with fail
          go_ret2
          rw [HC2.out]
          exact ⟨rfl, B4.out⟩
        · have hd2 : decide (400 < N) = false := by simpa using h2
          go_wp2_with fail
          refine (dSize_any w4 d fp n s D4.out).mono ?_
          rintro e1 wz ⟨rfl, hw⟩
          subst hw
          by_cases h3 : (n : Int) ≤ N
          · have hd3 : decide ((n : Int) ≤ N) = true := by simpa using h3
            have HC2 : Hid (cntOf n R = 0) := hid (by rw [HC.out, if_neg (by omega)])
            clear h1 h2 h3
            go_wp2_with fail
            go_ret2
            rw [HC2.out]
            exact ⟨rfl, B4.out⟩
          · have hd3 : decide ((n : Int) ≤ N) = false := by simpa using h3
            have HC2 : Hid (cntOf n R = N) := hid (by rw [HC.out, if_pos (by omega)])
            clear h1 h2 h3
            go_wp2_with fail
            go_ret2
            rw [HC2.out]
            exact ⟨rfl, B4.out⟩
end Go.Proofs.Ytplahohlmiphoaa
