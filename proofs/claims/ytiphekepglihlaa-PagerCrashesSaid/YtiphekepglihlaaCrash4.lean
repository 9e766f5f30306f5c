/- triadlaw4.PagerCrashes: the power goes; two that are like, or not. -/
import Derived.Test.YtiphekepglihlaaActs5
namespace Go.Proofs.Ytiphekepglihlaa
open Go.RowKit Go.Maps
set_option linter.unusedVariables false

theorem PgV.stopD {w : World} {p d : Nat} {F : Nat → Prop} {n : Nat} {s : DS} {S T : AS} {op : Bool} {N : Nat} (h : PgV w p d F n s S T op N) (m : Int) (hm : m ≤ 9223372036854775807) :
    Calls Try.prog 38 #[.pointer (some ⟨d, 0, none⟩), .int .i64 m] w fun e w' => e = .returned (.tuple #[]) ∧ PgV w' p d F n { s with stop := max m 0 } S T op N ∧ Chg F w w' := by
  obtain ⟨was, now, ch, h1, h2, h3, h4, h5⟩ := h
  obtain ⟨fp, ok, b, D, hu, hF⟩ := h1.parts
  refine (dStop_any w d fp n s m hu.bs.dsk hm).mono ?_
  rintro e w' ⟨rfl, hd, hc, hs⟩
  refine ⟨rfl, ⟨was, now, ch, ⟨fp, ok, b, D, ⟨hd, hu.bs.blk.chg hc hu.bs.out, hu.bs.was, hu.bs.now, hu.bs.out⟩, ?_, hu.chd.chg hc (fun g hg => (hu.oks g hg).2.2.1), hu.nb, hu.bp, fun g hg => ⟨(hu.oks g hg).1, (hu.oks g hg).2.1, (hu.oks g hg).2.2.1, Nat.lt_of_lt_of_le (hu.oks g hg).2.2.2 hc.size⟩, hF⟩, ⟨h2.n0, h2.n1, ⟨h2.rest.alive, h2.rest.since, h2.rest.now, h2.rest.kept, h2.rest.len⟩, h2.log, h2.head⟩, h3, h4, h5⟩, hc.mono (fun k _ hk => (hF k).2 (.inl hk))⟩
  obtain ⟨es, cl, h8, h9⟩ := hu.own
  exact ⟨es, cl, hc.heap h8 hu.nb, h9⟩

/-- what a disk may be behind a crash in a commit: the pages as they were, as they were to be, or a log of what is to be done -/
def Aft (n : Nat) (F : List UInt8) (S T : AS) (v : Int) : Prop :=
  (∃ now, Pgs n F now T) ∨ (v = 13 ∧ ∃ was, Pgs n F was S) ∨ (v = 13 ∧ ∃ ls K, LOk n ls ∧ PB n ls K F ∧ ∀ F', PC n ls K F' → ∃ now, Pgs n F' now T)

theorem PgV.commitC {w : World} {p d : Nat} {F : Nat → Prop} {n : Nat} {s : DS} {S T : AS} {N : Nat} (h : PgV w p d F n s S T true N) (hN : N ≤ 399) (ho : s.ops + 3000 ≤ 1000000) :
    Calls Try.prog 24 #[.pointer (some ⟨p, 0, none⟩)] w fun e w' => ∃ (v : Int) (s' : DS) (fp : Nat → Prop), e = .returned (.int .i64 v) ∧ (v = 0 ∨ v = 13) ∧ Dsk w' d fp n s' ∧ (∀ k, fp k → F k ∨ w.heap.size ≤ k) ∧ Chg F w w' ∧ s'.ops ≤ s.ops + 2010 ∧
      (403 ≤ n ∧ n ≤ 3000) ∧ ∀ keep, ∃ F', Rest n (dCrash s' keep) F' ∧ (dCrash s' keep).stop = 0 ∧ Aft n F' S T v := by
  obtain ⟨was, now, ch, h1, h2, h3, h4, h5⟩ := h
  have hl := h1.len.1
  refine (h1.commit (h3.ok h2.n1) (h4.ok h2.n1) (by omega) (fun k l e => by have := h5 k l e; have := h4.ev1; have := h2.n1; omega) ho).mono ?_
  rintro e w' ⟨ks, F', hlen, hnd, hmem, rfl, hA, hc, hF⟩
  have ci : ComIn n s was now ch S T ks := ⟨h2, h3, h4, h5, hl, hnd, hmem, by omega⟩
  obtain ⟨r1, r2, r3⟩ := ci.run
  obtain ⟨fp, ok, b, D, hu, hF2⟩ := hA.parts
  refine ⟨_, _, fp, rfl, ?_, hu.bs.dsk, fun k hk => hF k ((hF2 k).2 (.inl hk)), hc, r3, ⟨h2.n0, h2.n1⟩, fun keep => ?_⟩
  · exact r1.imp (fun h => h.1) (fun h => h.1)
  · rcases r1 with ⟨a1, a2, Fk, a3, a4⟩ | ⟨a1, a2, a3, a4⟩
    · obtain ⟨b1, b2⟩ := a3.crash keep
      exact ⟨Fk, b1, b2, .inl ⟨now, a4⟩⟩
    · obtain ⟨F', b1, b2, b3⟩ := a4.crash keep
      refine ⟨F', b2, b3, ?_⟩
      rcases b1 with b1 | b1 | b1
      · exact .inr (.inl ⟨a1, was, (h2.pgs h3).pa h2.n0 b1⟩)
      · exact .inr (.inr ⟨a1, _, _, ci.lok a3, b1, fun F'' h9 => ⟨now, ci.pc a3 h9⟩⟩)
      · exact .inl ⟨now, ci.pc a3 b1⟩
/-- opened again, behind it -/
theorem PgV.openC {w : World} {d : Nat} {fp : Nat → Prop} {n : Nat} {s : DS} {F' : List UInt8} {S T : AS} {v : Int} (hd : Dsk w d fp n s) (hn : 403 ≤ n ∧ n ≤ 3000) (hr : Rest n s F') (hst : s.stop = 0) (ha : Aft n F' S T v) (ho : s.ops + 3000 ≤ 1000000) :
    Calls Try.prog 17 #[.pointer (some ⟨d, 0, none⟩)] w fun e w' => ∃ p F s' A, e = .returned (.tuple #[.pointer (some ⟨p, 0, none⟩), .int .i64 0]) ∧ PgV w' p d F n s' A A false 0 ∧ (A = T ∨ (v = 13 ∧ A = S)) ∧ Chg fp w w' ∧ ∀ k, F k → fp k ∨ w.heap.size ≤ k := by
  rcases ha with ⟨now, h⟩ | ⟨hv, was, h⟩ | ⟨hv, ls, K, h1, h2, h3⟩
  · obtain ⟨hh, hA⟩ := h.home hr hn.1 hn.2
    refine (PgV.open hd hh hA ho).mono ?_
    rintro e w' ⟨p, F, rfl, a, b, c, dd⟩
    exact ⟨p, F, s, T, rfl, a, .inl rfl, b, dd⟩
  · obtain ⟨hh, hA⟩ := h.home hr hn.1 hn.2
    refine (PgV.open hd hh hA ho).mono ?_
    rintro e w' ⟨p, F, rfl, a, b, c, dd⟩
    exact ⟨p, F, s, S, rfl, a, .inr ⟨hv, rfl⟩, b, dd⟩
  · obtain ⟨r1, r2, r3⟩ := rec_run h1 hn.2 hr h2
    obtain ⟨g1, g2⟩ := r2 (by rw [hst]; decide)
    rcases r1 with ⟨_, _, F2, hr2, hpc⟩ | ⟨a1, _⟩
    · obtain ⟨now, hp⟩ := h3 F2 hpc
      obtain ⟨hh, hA⟩ := hp.home hr2 hn.1 hn.2
      refine (openA w d fp n s hd hn.1 ho g1 hr2.alive).mono ?_
      rintro e w' ⟨p, F, rfl, a, b, c, dd⟩
      rw [hh.head] at a
      exact ⟨p, F, _, T, rfl, ⟨now, now, _, a, hh, hA, hA, fun k l h => by cases h⟩, .inl rfl, b, dd⟩
    · rw [g1] at a1; cases a1

theorem XOp.abort1 {w : World} {x : Nat} {G : Nat → Prop} {n : Nat} {S T : AS} {N : Nat} (h : XOp w x G n S T N) :
    Calls Try.prog 30 #[.pointer (some ⟨x, 0, none⟩)] w fun e w' => e = .returned (.tuple #[]) ∧ XCl w' x G n S N ∧ Chg (fun k => k = x) w w' := by
  obtain ⟨b, gv, D, b2, gv2, D2, h1, h2, h3, h4, h5, h6, h7, h8, h9, h10, h11, h12⟩ := h
  have k9 : w.cell? ⟨x, 9, none⟩ = some (.bool true) := h1.cell 9
  have f9 := h1.frozen 9
  have P := hid (h1.set 9 (.bool false))
  have H2 := hid h2
  clear h1 h2 h3 h8 h11
  go_enter Try.func30, Try.ntmps30
  go_wp2_with fail
  go_end0
  have hc : Chg (fun k => k = x) w (w.setCell ⟨x, 9, none⟩ (.bool false)) := Chg.setCell (fp := fun k => k = x) _ rfl _
  exact ⟨rfl, ⟨b, gv, D, _, _, _, _, P.out, H2.out.chg hc (fun q hq e => h6 (e ▸ hq)), h4, h6, h9, h10, fun q hq => Nat.lt_of_lt_of_le (h12 q hq) hc.size⟩, hc⟩
set_option maxRecDepth 100000 in
theorem XOp.commit1 {w : World} {x : Nat} {G : Nat → Prop} {n : Nat} {S T : AS} {N : Nat} (h : XOp w x G n S T N) :
    Calls Try.prog 34 #[.pointer (some ⟨x, 0, none⟩)] w fun e w' => e = .returned (.int .i64 0) ∧ XCl w' x G n T N ∧ Chg (fun k => k = x) w w' := by
  obtain ⟨b, gv, D, b2, gv2, D2, h1, h2, h3, h4, h5, h6, h7, h8, h9, h10, h11, h12⟩ := h
  have k9 : w.cell? ⟨x, 9, none⟩ = some (.bool true) := h1.cell 9
  obtain ⟨gp2, gc2, rfl⟩ := own_shape h3.row
  have H1 := hid h1
  have H3 := hid h3
  have H11 := hid h11
  clear h1 h2 h3 h8 h10 h11
  go_enter Try.func34, Try.ntmps34
  go_wp2_with (first
    | (refine wpList_load_arr rfl 66 _ rfl _ Try.underlying66 rfl 4 stInfo x 5 _ _ rfl H1.out (by simp) [.map (some b2), .slice gp2 T.gone.length gc2, .int .i64 (T.ever + 1), .int .i64 T.root] rfl ?_)
    | (refine wpList_store_arr rfl 66 _ _ rfl 4 stInfo x 1 68 _ [.map (some b2), .slice gp2 T.gone.length gc2, .int .i64 (T.ever + 1), .int .i64 T.root] rfl rfl H1.out rfl (by simp) (fun u hu => by simp at hu; rcases hu with rfl | rfl | rfl | rfl <;> rfl) ?_; intro w3 hw3 hc3 hs3; have W3 := hid hw3; have C3 := hid hc3; have k93 := hw3.cell 9; have f93 := hw3.frozen 9; clear hw3 hc3))
  go_ret
  have hc : Chg (fun k => k = x) w (w3.setCell ⟨x, 9, none⟩ (.bool false)) := C3.out.trans (Chg.setCell (fp := fun k => k = x) _ rfl _) (fun _ _ h => h)
  exact ⟨rfl, ⟨b2, _, D2, _, _, _, _, W3.out.set 9 (.bool false), H3.out.chg hc (fun q hq e => h7 (e ▸ hq)), h5, h7, h9, H11.out, fun q hq => Nat.lt_of_lt_of_le (h12 q hq) hc.size⟩, hc⟩

set_option maxRecDepth 100000 in
set_option maxHeartbeats 4000000 in
/-- two that may be like, or not -/
theorem same_gen {w : World} {p d x n : Nat} {F G : Nat → Prop} {s : DS} {S T : AS} {op : Bool} {N : Nat} {S2 T2 : AS} {op2 : Bool} {M : Nat} (h : Duo w p d x n F G s S T op N S2 T2 op2 M) (hn : 403 ≤ n ∧ n ≤ 3000) :
    Calls Try.prog 32 #[.pointer (some ⟨p, 0, none⟩), .pointer (some ⟨x, 0, none⟩)] w fun e w' => ∃ r, e = .returned (.bool r) ∧ Below w.heap.size w w' := by
  have H := hid h
  clear h
  go_enter Try.func32, Try.ntmps32
  go_wp2_with fail
  refine H.out.pg.root.mono ?_
  rintro e1 wx ⟨rfl, hw⟩
  subst hw
  generalize hr1 : T.root = r1
  clear hr1
  go_wp2_with fail
  refine H.out.rf.seen.root.mono ?_
  rintro e2 w2 ⟨rfl, hb2⟩
  have B2 := hid hb2
  have H2 := hid (H.out.new' hb2)
  clear hb2
  generalize hr2 : T2.root = r2
  clear hr2
  rcases Bool.eq_false_or_eq_true (r1 != r2) with hc | hc
  · go_wp2_with fail
    go_ret
    exact ⟨false, rfl, B2.out⟩
  · go_wp2_with fail
    refine H2.out.pg.free.mono ?_
    rintro e3 wy ⟨rfl, hw⟩
    subst hw
    generalize hf1 : ((frees T (n - 402) : Nat) : Int) = f1
    clear hf1
    go_wp2_with fail
    refine H2.out.rf.seen.free.mono ?_
    rintro e4 w4 ⟨rfl, hb4⟩
    have B4 := hid (B2.out.trans (hb4.mono B2.out.size))
    clear hb4
    generalize hf2 : ((frees T2 (n - 402) : Nat) : Int) = f2
    clear hf2
    rcases Bool.eq_false_or_eq_true (f1 != f2) with hd | hd
    · go_wp2_with fail
      go_ret
      exact ⟨false, rfl, B4.out⟩
    · go_wp2_with fail
      go_loopw [5] (fun i wr => ∃ j : Nat, j ≤ n - 399 ∧ i = .int .i64 ((j : Int) - 1) ∧ Below wx.heap.size wx wr) (fun i _ => (n + 2) - (Go.RowKit.intOf i + 1).toNat)
      case atStart => exact ⟨0, Nat.zero_le _, rfl, B4.out⟩
      case round =>
        obtain ⟨j, hj, rfl, hb⟩ := hrel
        have BR := hid hb
        have HR := hid (H.out.new' (hb.mono (Nat.le_refl _)))
        have hpx := HR.out.rf.pages
        have hwj : IntKind.i64.wrap ((j : Int) - 1 + 1) = (j : Int) - 1 + 1 := i64_small (by omega) (by omega)
        have hkw : (Lit.int .i64 ((j : Int) - 1)).wf = true := by simp only [Lit.wf, IntKind.min, IntKind.max, IntKind.signed, IntKind.bits]; simp; omega
        clear hb
        by_cases hlt : (j : Int) - 1 ≤ (n : Int) - 401
        · go_wp2_with fail
          refine (HR.out.pg.get ((j : Int) - 1)).mono ?_
          rintro e5 w5 ⟨q, m, c, rfl, hm, hbs, hbe, _⟩
          have hm' : m = (getA T ((j : Int) - 1)).1.length := hm
          subst hm'
          have BS := hid hbs
          have H5 := hid (HR.out.new' hbe)
          have B5 := hid (BR.out.trans (hbe.mono BR.out.size))
          clear hm hbs hbe
          go_wp2_with fail
          refine (H5.out.rf.seen.get ((j : Int) - 1) hkw).mono ?_
          rintro e6 w6 ⟨rfl, hb6⟩
          have B6 := hid (B5.out.trans (hb6.mono B5.out.size))
          have BS6 := hid (BS.out.new hb6)
          clear hb6 hpx
          generalize hg : getA T ((j : Int) - 1) = g at *
          obtain ⟨gl, ge⟩ := g
          clear hg
          generalize hg2 : getA T2 ((j : Int) - 1) = g2
          obtain ⟨gl2, ge2⟩ := g2
          clear hg2
          rcases Bool.eq_false_or_eq_true (gl == gl2) with he | he
          · rcases Bool.eq_false_or_eq_true (ge != ge2) with hf | hf
            · go_wp2_with (refine wpList_bytes_str rfl 41 9 _ rfl 5 Try.underlying41 Try.underlying5 Try.underlying9 _ gl rfl BS6.out ?_)
              go_ret
              first | exact ⟨false, rfl, B6.out⟩ | exact ⟨rfl, B6.out⟩ | exact B6.out
            · go_wp2_with (refine wpList_bytes_str rfl 41 9 _ rfl 5 Try.underlying41 Try.underlying5 Try.underlying9 _ gl rfl BS6.out ?_)
              go_roundw
              case rel => exact ⟨j + 1, by omega, by push_cast; congr 1; omega, B6.out⟩
              case measure =>
                show (n + 2) - ((j : Int) + 1).toNat < (n + 2) - ((j : Int) - 1 + 1).toNat
                omega
          · go_wp2_with (refine wpList_bytes_str rfl 41 9 _ rfl 5 Try.underlying41 Try.underlying5 Try.underlying9 _ gl rfl BS6.out ?_)
            go_ret
            first | exact ⟨false, rfl, B6.out⟩ | exact ⟨rfl, B6.out⟩ | exact B6.out
        · go_wp2_with fail
          go_ret
          first | exact ⟨true, rfl, BR.out⟩ | exact ⟨.inr rfl, BR.out⟩ | exact ⟨.inl rfl, BR.out⟩
end Go.Proofs.Ytiphekepglihlaa
