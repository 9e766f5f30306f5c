/- triadref2: Write. -/
import Derived.Test.YtplahohlmiphoaaRef2b
namespace Go.Proofs.Ytplahohlmiphoaa
open Go.RowKit
set_option linter.unusedVariables false

theorem chInfo : (Try.prog.info? 80).map (fun i => (i.zero, i.size, i.bytes)) = some (some (.agg #[.int .i64 0, .slice none 0 0]), 2, 32) := by kernel_rfl

theorem xWrite_err (w : World) (r : Nat) (fp : Nat → Prop) (n : Nat) (s : DS) (at_ : Int) (v : Value) (l : List UInt8) (h : XDk w r fp n s) (hv : Bs w v l) (hl : l.length ≤ 1000000) (hbad : s.dead = true ∨ ¬ (0 ≤ at_ ∧ at_ < n) ∨ 512 < l.length) :
    Calls Try.prog 20 #[.pointer (some ⟨r, 0, none⟩), .int .i64 at_, v] w fun e w' => e = .returned (.int .i64 (if s.dead then 13 else 1)) ∧ w = w' := by
  obtain ⟨sv, lv, gs, hs, h1, h2, _⟩ := h
  obtain ⟨p, c, rfl, _⟩ := own_slice h2
  obtain ⟨c0, c1, c2, c3, c4, f0, f1, f2, f3, f4⟩ := five_cells h1
  obtain ⟨_, p, cap, rfl, _⟩ := hv
  clear h1 h2
  by_cases hdead : s.dead = true
  · rw [hdead] at c3
    rw [hdead]
    clear hdead hbad
    go_enter Try.func20, Try.ntmps20
    go_wp2_with fail
    go_ret
    exact ⟨rfl, rfl⟩
  · have hdead' : s.dead = false := by simpa using hdead
    have hb := hbad.resolve_left hdead
    rw [hdead'] at c3
    rw [hdead']
    clear hdead hbad
    by_cases hneg : at_ < 0
    · clear hb
      go_enter Try.func20, Try.ntmps20
      go_wp2_with fail
      go_ret
      exact ⟨rfl, rfl⟩
    · by_cases hge : (n : Int) ≤ at_
      · clear hb
        go_enter Try.func20, Try.ntmps20
        go_wp2_with fail
        go_ret
        exact ⟨rfl, rfl⟩
      · have hl5 : 512 < l.length := hb.resolve_left (fun hn => hn (by omega))
        clear hb
        go_enter Try.func20, Try.ntmps20
        go_wp2_with fail
        go_ret
        exact ⟨rfl, rfl⟩

set_option maxRecDepth 100000 in
set_option maxHeartbeats 1600000 in
theorem xWrite_ok (w : World) (r : Nat) (fp : Nat → Prop) (n : Nat) (s : DS) (k : Nat) (v : Value) (l : List UInt8) (h : XDk w r fp n s) (hv : Bs w v l) (hdead : s.dead = false) (hk : k < n) (hl : l.length ≤ 512) (ho : s.ops ≤ 1000000) :
    Calls Try.prog 20 #[.pointer (some ⟨r, 0, none⟩), .int .i64 k, v] w fun e w' => e = .returned (.int .i64 (if dStepGone s then 13 else 0)) ∧ XTo w r fp n (dStep (dWritten s k l)) w' := by
  have HH := hid h
  have HV := hid hv
  obtain ⟨sv, lv, gs, hs, h1, h2, h3, h4, h5, h6, h7, h8, h9, h10, h11, h12, h13⟩ := h
  obtain ⟨_, p, cap, rfl, _⟩ := hv
  have hn := h12.n2
  obtain ⟨sp, sc, rfl, _⟩ := own_slice h2
  obtain ⟨lp, lc, rfl, _⟩ := own_slice h3
  obtain ⟨c0, c1, c2, c3, c4, f0, f1, f2, f3, f4⟩ := five_cells h1
  rw [hdead] at c3
  have H1 := hid h1
  have H2 := hid h2
  have H3 := hid h3
  have H4 := hid (And.intro h4 h5)
  have H6 := hid (And.intro h6 h7)
  have H8 := hid (And.intro h8 (And.intro h9 (And.intro h10 h11)))
  have OK := hid h12
  have HN := hid h13
  have HD := hid hdead
  clear h1 h2 h3 h4 h5 h6 h7 h8 h9 h10 h11 h12 h13 hdead
  go_enter Try.func20, Try.ntmps20
  go_wp2_with (first
    | (at_make; refine wpList_make_blk rfl _ _ 26 rfl 5 _ 1 1 Try.underlying26 infoU8 _ _ _ _ 512 rfl rfl rfl rfl (by omega) (by simp only [maxLen]; omega) ?_; intro w1 hh hb1 hl1; rw [made_bytes] at hh; have HM := hid hh; have B1 := hid hb1; clear hh hb1 hl1)
    | (refine wpList_copy_gen rfl _ _ 26 26 rfl 5 1 Try.underlying26 infoU8' _ _ _ _ rfl _ _ HM.out _ rfl l.length (bv l) ?hr1 ?hr2 (bv_one _) ?_; (case hr1 => exact HV.out.chg (Chg.new B1.out NoFp) (fun _ _ _ _ h => h)); (case hr2 => rw [bv_length, List.length_replicate]; omega); intro w2 hb2 hc2 hs2; have W2 := hid hb2; have C2 := hid (Chg.trans (Chg.new B1.out (fun q => q = w.heap.size)) hc2 (fun _ _ h => h)); have hd2 := H1.out.chg C2.out (not_new H1.out.lt); obtain ⟨d0, d1, d2, d3, d4, g0, g1, g2, g3, g4⟩ := five_cells hd2; have HO2 := hid (own_chg H3.out C2.out (fun g hg => not_new (H8.out.2.2.2 g (H8.out.2.1 g hg).2))); clear hb2 hc2 hs2 hd2 HV)
    | (at_builtin; refine wpList_append_rd rfl _ _ 75 rfl 0 80 _ 2 32 Try.underlying75 chInfo rfl (by decide) _ s.since.length (chCells s.since hs) rfl (HO2.out.alloc _) _ 1 [.int .i64 (k : Int), rowV w.heap.size] rfl (Rd.blk (off := 0) (n := 1) (c := 1) (size := 2) (heap_alloc_new w2 _) (Nat.le_refl _) (by simp only [maxLen]; omega) (by simp)) (by simp [Value.oneCell', rowV]) (by have := OK.out.many; have := OK.out.ops1; simp only [maxLen]; omega) (by have := OK.out.many; have := OK.out.ops1; omega) (Nat.zero_le _) ?_; intro p' c' w4 hw4 hg4 ho4; have W4 := hid hw4; have G4 := hid (Chg.grown hg4); have O4 := hid ho4; have hdx := ((H1.out.chg C2.out (not_new H1.out.lt)).chg (Chg.alloc NoFp _ _) (fun h => h)).chg G4.out (fun h => (H8.out.2.1 r h).1 rfl); have D4 := hid hdx; obtain ⟨d0, d1, d2, d3, d4, g0, g1, g2, g3, g4⟩ := five_cells hdx; clear hw4 hg4 ho4 hdx))
  have hw7 := W4.out
  rw [show chCells s.since hs ++ [.int .i64 (k : Int), rowV w.heap.size] = chCells (s.since ++ [(k, pad l)]) (hs ++ [w.heap.size]) from (chCells_snoc s.since hs (k, pad l) w.heap.size H4.out.2).symm] at hw7
  have hpad : splice (bv (List.replicate 512 0)) 0 ((bv l).take (min l.length 512 * 1)) = bv (pad l) := by
    rw [List.take_of_length_le (by rw [bv_length]; omega)]
    unfold splice pad
    rw [List.take_zero, List.nil_append, Nat.zero_add, bv_append, bv_length, bv_drop, List.drop_replicate]
  have hw2 := W2.out
  rw [hpad] at hw2
  have CS := hid (Chg.setCell (fp := fun q => q = r) w4 (a := ⟨r, 1, none⟩) rfl (.slice p' (s.since.length + 1) c'))
  have hlvr : ∀ g, (Value.slice lp s.since.length lc).ownBlock = some g → g ≠ r ∧ fp g := H8.out.2.1
  have C24 : Hid (Chg (fun q => (Value.slice lp s.since.length lc).ownBlock = some q) w2 w4) := hid ((Chg.alloc (fun q => (Value.slice lp s.since.length lc).ownBlock = some q) _ _).trans G4.out (fun _ _ h => h))
  have CW : Hid (Chg (fun q => q = r ∨ q = w.heap.size ∨ (Value.slice lp s.since.length lc).ownBlock = some q) w (w4.setCell ⟨r, 1, none⟩ (.slice p' (s.since.length + 1) c'))) := hid
    (((C2.out.mono (fun _ _ h => .inr (.inl h))).trans C24.out (fun _ _ h => .inr (.inr h))).trans CS.out (fun _ _ h => .inl h))
  have hnew : ∀ q, q < w.heap.size → q ≠ r → (Value.slice lp s.since.length lc).ownBlock ≠ some q → ¬ (fun q => q = r ∨ q = w.heap.size ∨ (Value.slice lp s.since.length lc).ownBlock = some q) q := fun q h1 h2 h3 h => by
    rcases h with h | h | h
    · exact h2 h
    · exact not_new h1 h
    · exact h3 h
  have hsz2 : w.heap.size < w2.heap.size := (show Blk w2 w.heap.size _ _ from hw2).lt
  have hsz4 : w2.heap.size < w4.heap.size := by have h := G4.out.size; simp at h; omega
  have hfp : ∀ q, fp q → q < w.heap.size := H8.out.2.2.2
  have LO : Hid (∀ g, (Value.slice p' (s.since.length + 1) c').ownBlock = some g → (Value.slice lp s.since.length lc).ownBlock = some g ∨ (w2.heap.size < g ∧ g < w4.heap.size)) := hid (fun g hg => by
    rcases O4.out with h | h
    · exact .inl (h ▸ hg)
    · refine .inr ⟨?_, ?_⟩
      · have h4 : (w2.alloc (.cells #[.int .i64 (k : Int), rowV w.heap.size] 80)).heap.size = g := Option.some.inj (h.symm.trans hg)
        simp at h4
        omega
      · rcases W4.out.2 with ⟨h7, _⟩ | ⟨g', cap', cur', h7, _, h9, _⟩
        · rw [h7] at hg; cases hg
        · have h10 : g = g' := by rw [h7] at hg; exact (Option.some.inj hg).symm
          rw [h10]; exact (Array.getElem?_eq_some_iff.1 h9).1)
  have HX := hid (And.intro (And.intro hw7 hw2) (And.intro hnew (And.intro hsz2 (And.intro hsz4 hfp))))
  have hd7 := D4.out.set 1 (.slice p' (s.since.length + 1) c')
  simp only [List.set] at hd7
  have D7 := hid hd7
  have FIN : Hid (∀ w8, Blk w8 r [.slice sp n sc, .slice p' (s.since.length + 1) c', .int .i64 (dStep (dWritten s k l)).stop, .bool (dStep (dWritten s k l)).dead, .int .i64 (dStep (dWritten s k l)).ops] 77 →
      Chg (fun q => q = r) (w4.setCell ⟨r, 1, none⟩ (.slice p' (s.since.length + 1) c')) w8 → XTo w r fp n (dStep (dWritten s k l)) w8) := hid (fun w8 hb hc => by
    obtain ⟨⟨hw7, hw2⟩, hnew, hsz2, hsz4, hfp⟩ := HX.out
    have ok := OK.out
    have hst := dStep_stop (dWritten s k l) ok.stop0
    have e2 : (dWritten s k l).stop = s.stop := rfl
    have e3 : (dWritten s k l).ops = s.ops := rfl
    have e1 : (dStep (dWritten s k l)).since = s.since ++ [(k, pad l)] := by rw [dStep_since]; rfl
    have e4 : (dStep (dWritten s k l)).kept = s.kept := by rw [dStep_kept]; rfl
    have e5 : (dStep (dWritten s k l)).now = setRowAt s.now k (pad l) := by rw [dStep_now]; rfl
    have hk512 : (k + 1) * 512 ≤ n * 512 := Nat.mul_le_mul_right _ hk
    have hz8 : w4.heap.size ≤ w8.heap.size := by have := hc.size; simp [World.setCell] at this; exact this
    have := ok.stop1
    have := ok.many
    have C8 := CW.out.trans hc (fun _ _ h => .inl h)
    have hfpn : ∀ g, fp g → g ≠ w.heap.size := fun g h => by have := hfp g h; omega
    refine ⟨fun q => fp q ∨ (w.heap.size ≤ q ∧ q < w8.heap.size), ⟨.slice sp n sc, _, gs, hs ++ [w.heap.size], hb, ?_, ?_, H4.out.1, ?_, fun i g hg => ?_, fun i g p hg hp => ?_, fun g hg => ?_, fun g hg => ?_, .inl H8.out.2.2.1, fun q hq => ?_, ?_, ?_⟩, C8.mono (fun q hq h => ?_), fun q hq => hq.imp id (fun h => h.1)⟩
    · exact own_chg H2.out C8 (fun g hg => hnew g (hfp _ (H8.out.1 g hg).2.1) (H8.out.1 g hg).1 (H8.out.1 g hg).2.2)
    · rw [e1, List.length_append, List.length_singleton]
      refine own_chg (own_chg hw7 CS.out (fun g hg h => ?_)) hc (fun g hg h => ?_)
      · have h2 : g = r := h
        rcases LO.out g hg with h3 | h3
        · exact (H8.out.2.1 g h3).1 h2
        · have := hfp r H8.out.2.2.1; omega
      · have h2 : g = r := h
        rcases LO.out g hg with h3 | h3
        · exact (H8.out.2.1 g h3).1 h2
        · have := hfp r H8.out.2.2.1; omega
    · rw [e1, List.length_append, List.length_append, H4.out.2]; rfl
    · rw [e4]
      obtain ⟨q1, q2, q3, q4, q5⟩ := H6.out.1 i g hg
      refine ⟨q1.chg C8 (hnew g (hfp g q2) q3 q5), .inl q2, q3, q4, fun h => ?_⟩
      rcases LO.out g h with h3 | h3
      · exact q5 h3
      · have := hfp g q2; omega
    · rw [e1] at hp
      by_cases hi : i < hs.length
      · rw [List.getElem?_append_left hi] at hg
        rw [List.getElem?_append_left (by rw [← H4.out.2]; exact hi)] at hp
        obtain ⟨q1, q2, q3, q4, q5⟩ := H6.out.2 i g p hg hp
        refine ⟨q1.chg C8 (hnew g (hfp g q2) q3 q5), .inl q2, q3, q4, fun h => ?_⟩
        rcases LO.out g h with h3 | h3
        · exact q5 h3
        · have := hfp g q2; omega
      · rw [List.getElem?_append_right (by omega)] at hg
        rw [List.getElem?_append_right (by rw [← H4.out.2]; omega)] at hp
        have hi0 : i - hs.length = 0 := by
          have := (List.getElem?_eq_some_iff.1 hg).1
          simp at this; omega
        rw [hi0] at hg
        rw [← H4.out.2, hi0] at hp
        obtain rfl : w.heap.size = g := by simpa using hg
        obtain rfl : (k, pad l) = p := by simpa using hp
        have hrs := hfp r H8.out.2.2.1
        refine ⟨?_, .inr ⟨Nat.le_refl _, by omega⟩, by omega, fun h => ?_, fun h => ?_⟩
        · have q1 := (show Blk w2 w.heap.size (bv (pad l)) 5 from hw2).chg C24.out (fun h => hfpn _ (H8.out.2.1 _ h).2 rfl)
          exact (q1.chg CS.out (fun h => by have h2 : w.heap.size = r := h; omega)).chg hc (fun h => by have h2 : w.heap.size = r := h; omega)
        · exact hfpn _ (H8.out.1 _ h).2.1 rfl
        · rcases LO.out _ h with h3 | h3
          · exact hfpn _ (H8.out.2.1 _ h3).2 rfl
          · omega
    · obtain ⟨q1, q2, q3⟩ := H8.out.1 g hg
      refine ⟨q1, .inl q2, fun h => ?_⟩
      rcases LO.out g h with h3 | h3
      · exact q3 h3
      · have := hfp g q2; omega
    · rcases LO.out g hg with h3 | h3
      · exact ⟨(H8.out.2.1 g h3).1, .inl (H8.out.2.1 g h3).2⟩
      · exact ⟨by have := hfp r H8.out.2.2.1; omega, .inr ⟨by omega, by omega⟩⟩
    · rcases hq with h | h
      · have := hfp q h; omega
      · exact h.2
    · refine ⟨ok.n1, ok.n2, ?_, ?_, ?_, ?_, hst.1, by omega, ?_⟩
      · rw [e5]; exact (splice_length _ _ _ (by rw [pad_length hl, ok.now]; omega)).trans ok.now
      · rw [e4]; exact ok.kept
      · rw [e1]
        intro p hp
        rcases List.mem_append.1 hp with h | h
        · exact ok.since p h
        · obtain rfl := List.mem_singleton.1 h
          exact ⟨hk, pad_length hl⟩
      · rw [e1, dStep_ops, List.length_append, List.length_singleton, e3]
        omega
      · rw [dStep_ops, e3]; omega
    · rw [e5, e1, e4, dAll_snoc, ← HN.out]
    · rcases h with h | h | h
      · rw [h]; exact H8.out.2.2.1
      · omega
      · exact (H8.out.2.1 q h).2)
  have HO : Hid (0 ≤ s.ops) := hid (by have := OK.out.many; omega)
  clear hw7 hpad hw2 hlvr hnew hsz2 hsz4 hfp hd7 HX LO CW C24 CS W4 W2 G4 O4 C2 HM B1 D4 d0 d1 d2 d3 d4 g0 g1 g2 g3 g4
  cases hgo : dStepGone s with
  | true =>
    go_wp2_with (first
      | (go_at_call 40; refine (xOp_raw _ r _ _ (dWritten s k l) D7.out HD.out OK.out.stop0 OK.out.stop1 HO.out ho).mono ?_; rintro e8 w8 ⟨rfl, h8, h9, h10⟩; (have H8' := hid h8); (have C8 := hid h9); clear h8 h9 h10; (have hgo' : dStepGone (dWritten s k l) = true := hgo); rw [hgo']; clear hgo'))
    all_goals (go_ret; exact ⟨rfl, FIN.out _ H8'.out C8.out⟩)
  | false =>
    go_wp2_with (first
      | (go_at_call 40; refine (xOp_raw _ r _ _ (dWritten s k l) D7.out HD.out OK.out.stop0 OK.out.stop1 HO.out ho).mono ?_; rintro e8 w8 ⟨rfl, h8, h9, h10⟩; (have H8' := hid h8); (have C8 := hid h9); clear h8 h9 h10; (have hgo' : dStepGone (dWritten s k l) = false := hgo); rw [hgo']; clear hgo'))
    all_goals (go_ret; exact ⟨rfl, FIN.out _ H8'.out C8.out⟩)
end Go.Proofs.Ytplahohlmiphoaa
