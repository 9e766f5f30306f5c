/- triadlaw2.Same: a disk and the document's, sector by sector. -/
import Derived.Test.YtplahohlmiphoaaRef2f
namespace Go.Proofs.Ytplahohlmiphoaa
open Go.RowKit
set_option linter.unusedVariables false

theorem turn {P : Program} {f : FuncId} {args : Array Value} {w : World} {v : Value} (h : Calls P f args w fun e w' => e = .returned v ∧ w = w') : Calls P f args w fun e w' => e = .returned v ∧ w' = w :=
  h.mono fun e w' he => ⟨he.1, he.2.symm⟩

set_option maxRecDepth 100000 in
set_option maxHeartbeats 1600000 in
theorem same_any (w : World) (d x : Nat) (fp fx : Nat → Prop) (n : Nat) (s : DS) (hd : Dsk w d fp n s) (hx : XDk w x fx n s) :
    Calls Try.prog 27 #[.pointer (some ⟨d, 0, none⟩), .pointer (some ⟨x, 0, none⟩)] w fun e w' => e = .returned (.bool true) ∧ Below w.heap.size w w' := by
  have hn := hd.ok.n2
  have HD := hid hd
  have HX := hid hx
  clear hd hx
  go_enter Try.func27, Try.ntmps27
  go_wp2_with fail
  have hD2 := HD.out.chg (Chg.drewN NoFp w 1) (fun _ _ h => h)
  have hX2 := HX.out.chg (Chg.drewN NoFp w 1) (fun _ _ h => h)
  have C1 := hid (turn (dSize_any _ d _ n s hD2))
  have C2 := hid (turn (xSize_any _ x _ n s hX2))
  have C3 := hid (turn (dDead_any _ d _ n s hD2))
  have C4 := hid (turn (dOps_any _ d _ n s hD2))
  have hX3 := HX.out
  obtain ⟨_, _, _, _, h1, _⟩ := hX3
  obtain ⟨c0, c1, c2, c3, c4, f0, f1, f2, f3, f4⟩ := five_cells h1
  have D2 := hid hD2
  have X2 := hid hX2
  clear h1 hD2 hX2
  refine wp_region_still_lit (by kernel_rfl) (by kernel_rfl) ?_
  repeat still_step
  still_call C1.out
  repeat still_step
  still_call C2.out
  repeat still_step
  still_call C3.out
  repeat still_step
  still_call C4.out
  repeat still_step
  refine wpStill_nil ?_
  have L2 : Hid (Dsk w.drew d fp n s ∧ XDk w.drew x fx n s ∧ Below w.heap.size w w.drew) := hid ⟨D2.out, X2.out, below_drewN (Below.refl _ _) 1⟩
  clear C1 C2 C3 C4 c0 c1 c2 c3 c4 f0 f1 f2 f3 f4 D2 X2 HD HX
  go_wp2_with fail
  go_loopw [5] (fun i wr => ∃ j : Nat, j ≤ n ∧ i = .int .i64 j ∧ Dsk wr d fp n s ∧ XDk wr x fx n s ∧ Below w.heap.size w wr) (fun i _ => n + 1 - (intOf i).toNat)
  case atStart => exact ⟨0, Nat.zero_le _, rfl, L2.out⟩
  case round =>
    obtain ⟨j, hj, rfl, hd3, hx3, hb3⟩ := hrel
    have D3 := hid hd3
    have X3 := hid hx3
    have B3 := hid hb3
    clear L2 hd3 hx3 hb3
    go_wp2_with fail
    refine (xSize_any _ x _ n s X3.out).mono ?_; rintro e1 wx ⟨rfl, rfl⟩
    by_cases hlt : j < n
    · rcases Bool.eq_false_or_eq_true s.dead with hdead | hdead
      ·
        have HR := hid (dRead_err wr d fp n s (j : Int) D3.out (.inl hdead))
        have HY := hid (xRead_err wr x fx n s (j : Int) X3.out (.inl hdead))
        have HDD := hid hdead
        clear hdead
        go_wp2_with fail
        have h1 := HR.out
        rw [if_pos HDD.out] at h1
        refine h1.mono ?_; rintro e1 wx ⟨rfl, hw⟩
        rw [hw] at D3 X3 B3 HY; clear hw h1 HR
        go_wp2_with fail
        have h1 := HY.out
        rw [if_pos HDD.out] at h1
        refine h1.mono ?_; rintro e1 wy ⟨rfl, hw⟩
        rw [hw] at D3 X3 B3; clear hw h1 HY
        go_wp2_with (refine wpList_bytes_str rfl 26 9 _ rfl 5 Try.underlying26 Try.underlying5 Try.underlying9 _ [] rfl (Rd.nil _ _) ?_)
        go_roundw
        case rel => exact ⟨j + 1, by omega, by go_num, D3.out, X3.out, B3.out⟩
        case measure => simp [intOf]; omega
      ·
        have HDD := hid hdead
        have HNW := hid (row_length D3.out.ok.now hlt)
        clear hdead
        go_wp2_with fail
        refine (dRead_ok _ d fp n s j D3.out HDD.out hlt).mono ?_; rintro e1 w5 ⟨g, rfl, hg, hrow, hb5⟩
        have D5 := hid (D3.out.chg (Chg.new hb5 NoFp) (fun _ _ h => h))
        have X5 := hid (X3.out.chg (Chg.new hb5 NoFp) (fun _ _ h => h))
        have B5 := hid (B3.out.trans (hb5.mono B3.out.size))
        have R5 := hid hrow
        clear hg hrow hb5 D3 X3 B3
        go_wp2_with fail
        refine (xRead_ok _ x fx n s j X5.out HDD.out hlt).mono ?_; rintro e1 w6 ⟨p, c, rfl, hbs, hb6⟩
        have D6 := hid (D5.out.chg (Chg.new hb6 NoFp) (fun _ _ h => h))
        have X6 := hid (X5.out.chg (Chg.new hb6 NoFp) (fun _ _ h => h))
        have B6 := hid (B5.out.trans (hb6.mono B5.out.size))
        have R6 := hid (Bs.blk (R5.out.chg (Chg.new hb6 NoFp) (fun h => h)) HNW.out.symm (by simp only [maxLen]; omega))
        have Y6 := hid hbs
        clear hbs hb6 D5 X5 B5 R5
        go_wp2_with (first
          | (refine wpList_bytes_str rfl 26 9 _ rfl 5 Try.underlying26 Try.underlying5 Try.underlying9 _ (row s.now j) rfl R6.out ?_)
          | (refine wpList_bytes_str rfl 26 9 _ rfl 5 Try.underlying26 Try.underlying5 Try.underlying9 _ (row s.now j) rfl Y6.out ?_))
        go_roundw
        case rel => exact ⟨j + 1, by omega, by go_num, D6.out, X6.out, B6.out⟩
        case measure => simp [intOf]; omega
    · go_wp2_with fail
      go_ret
      exact ⟨rfl, B3.out⟩
end Go.Proofs.Ytplahohlmiphoaa
