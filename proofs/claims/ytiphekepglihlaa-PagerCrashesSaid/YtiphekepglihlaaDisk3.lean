/- package disk: Crash, New. -/
import Derived.Test.YtiphekepglihlaaDisk2
import Derived.Lib.MinMax
namespace Go.Proofs.Ytiphekepglihlaa
open Go.RowKit
set_option linter.unusedVariables false

/-- where the loop of Crash is -/
def CrashAt (w : World) (d bn bk : Nat) (fp : Nat → Prop) (n : Nat) (s : DS) (sv kv : Value) (keep : List Bool) (i : Nat) (F : List UInt8) (wr : World) : Prop :=
  i ≤ keep.length ∧ i ≤ s.since.length ∧ F.length = n * 512 ∧ dKept (keep.drop i) (s.since.drop i) F = dKept keep s.since s.kept ∧ Chg fp w wr ∧
  Blk wr d [.slice (some ⟨bn, 0, none⟩) n n, .slice (some ⟨bk, 0, none⟩) n n, sv, .int .i64 s.stop, .int .i64 s.ops, .bool s.dead] 86 ∧ Blk wr bn (bv s.now) 99 ∧
  Blk wr bk (bv F) 99 ∧ wr.ownsRow 0 101 513 sv s.since.length (sinceCells s.since) ∧ Rd wr 1 kv keep.length (keep.map Value.bool)

theorem crash_step {w wr w3 : World} {d bn bk : Nat} {fp : Nat → Prop} {n : Nat} {s : DS} {sv kv : Value} {keep : List Bool} {i : Nat} {F F' : List UInt8} {b : Bool} {p : Nat × List UInt8}
    (h : CrashAt w d bn bk fp n s sv kv keep i F wr) (hc : Chg (fun q => q = wr.heap.size ∨ q = bk) wr w3) (hb : Blk w3 bk (bv F') 99) (hF : F' = if b then setRowAt F p.1 p.2 else F) (hk : keep[i]? = some b) (hp : s.since[i]? = some p)
    (ok : DOk n s) (g5 : d ≠ bn ∧ d ≠ bk ∧ bn ≠ bk) (hfp : fp bk) (g8 : ∀ g, sv.ownBlock = some g → g ≠ d ∧ g ≠ bn ∧ g ≠ bk ∧ fp g) (hkn : 0 < keep.length → ∀ g, kv.ownBlock = some g → ¬ fp g) : CrashAt w d bn bk fp n s sv kv keep (i + 1) F' w3 := by
  obtain ⟨i1, i2, i3, i4, i5, h1, h2, h3, h4, hkr⟩ := h
  have l1 := (List.getElem?_eq_some_iff.1 hk).1
  have l2 := (List.getElem?_eq_some_iff.1 hp).1
  have hs := ok.since p (List.mem_of_getElem? hp)
  have out : ∀ g, g < wr.heap.size → g ≠ bk → ¬ (fun q => q = wr.heap.size ∨ q = bk) g := fun g hg hne h => by rcases h with h | h; exact not_new hg h; exact hne h
  refine ⟨l1, l2, ?_, ?_, i5.trans hc (fun q hq h => by rcases h with h | h; (have := i5.size; omega); rw [h]; exact hfp), h1.chg hc (out _ h1.lt g5.2.1), h2.chg hc (out _ h2.lt g5.2.2), hb, ?_, ?_⟩
  · rw [hF]
    split
    · unfold setRowAt
      have : (p.1 + 1) * 512 ≤ n * 512 := Nat.mul_le_mul_right _ hs.1
      rw [splice_length _ _ _ (by rw [hs.2, i3]; omega)]; exact i3
    · exact i3
  · rw [← i4, dKept_step hk hp, hF]
  · refine own_chg h4 hc (fun g hg => ?_)
    rcases h4.2 with ⟨q1, q2⟩ | ⟨g', cap, cur, q1, q2, q3, _⟩
    · rw [q1] at hg; cases hg
    · have e : g = g' := by rw [q1] at hg; exact (Option.some.inj hg).symm
      exact out g (by rw [e]; exact (Array.getElem?_eq_some_iff.1 q3).1) (g8 g hg).2.2.1
  · exact hkr.chg hc (fun hpos g hg hlt => out g hlt (fun e => hkn hpos g hg (by rw [e]; exact hfp)))

theorem wZero_length : wZero.length = 513 := by rw [wZero, wRow_length, z512_length]
theorem CellTo {w w' : World} {fp : Nat → Prop} {b off : Nat} (h : Chg fp w w') (hn : ¬ fp b) (hl : b < w.heap.size := by assumption) : w'.cell? ⟨b, off, none⟩ = w.cell? ⟨b, off, none⟩ :=
  World.cell?_of_block (w := w) (a := ⟨b, off, none⟩) (h.block b hl hn)

set_option maxRecDepth 100000 in
set_option maxHeartbeats 1600000 in
theorem dCrash_any (w : World) (d : Nat) (fp : Nat → Prop) (n : Nat) (s : DS) (kv : Value) (keep : List Bool) (h : Dsk w d fp n s) (hk : Rd w 1 kv keep.length (keep.map Value.bool)) (hkn : 0 < keep.length → ∀ g, kv.ownBlock = some g → ¬ fp g) :
    Calls Try.prog 36 #[.pointer (some ⟨d, 0, none⟩), kv] w fun e w' => e = .returned (.tuple #[]) ∧ Dsk w' d fp n (dCrash s keep) ∧ Chg fp w w' := by
  obtain ⟨bn, bk, sv, h1, h2, h3, h4, h5, h6, h7, h8, h9, h10, h11, h12, h13⟩ := h
  have hn := h13.n2
  have hsl : (s.since.length : Int) ≤ 2000000 := by have := h13.many; have := h13.ops1; omega
  have H0 : Hid (CrashAt w d bn bk fp n s sv kv keep 0 s.kept w) := hid ⟨Nat.zero_le _, Nat.zero_le _, h13.kept, rfl, Chg.refl _ _, h1, h2, h3, h4, hk⟩
  have G5 := hid (And.intro h5 (And.intro h6 h7))
  have G9 := hid (And.intro h9 (And.intro h10 (And.intro h11 h12)))
  have ok := hid h13
  have G8 := hid h8
  have KN := hid hkn
  obtain ⟨_, kp, kc, rfl, _⟩ := hk
  obtain ⟨svp, svc, rfl⟩ : ∃ p c, sv = .slice p s.since.length c := by
    rcases h4.2 with ⟨q1, q2⟩ | ⟨g, cap, cur, q1, _⟩
    · exact ⟨none, 0, by rw [q1, q2]⟩
    · exact ⟨_, _, q1⟩
  clear h1 h2 h3 h4 h5 h6 h7 h8 h9 h10 h11 h12 h13 hkn
  go_enter Try.func36, Try.ntmps36
  go_wp2_with fail
  refine wp_scope_goto 0 (fun dd a wr => ∃ (i : Nat) (F : List UInt8) (u3 u5 u6 u7 u8 u9 u10 u11 u12 u13 u14 u15 u16 u17 u18 u19 u20 u21 u22 u23 u24 u25 u26 u27 u28 u29 u30 u31 u32 u33 u34 u35 u36 u37 : Value), dd = s.since.length - i ∧ CrashAt w d bn bk fp n s (.slice svp s.since.length svc) (.slice kp keep.length kc) keep i F wr ∧
     a = ⟨#[.pointer (some ⟨d, 0, none⟩), .slice kp keep.length kc, undef, u3, .int .i64 i, u5, u6, u7, u8, u9, u10, u11, u12, u13, u14, u15, u16, u17, u18, u19, u20, u21, u22, u23, u24, u25, u26, u27, u28, u29, u30, u31, u32, u33, u34, u35, u36, u37, undef, undef, undef, undef, undef, undef, undef, undef, undef, undef, undef, undef, undef, undef, undef, undef, undef, undef], []⟩) rfl ?pass ?first
  case first =>
    intro K hK
    go_wp2_with fail
    refine wp_label ?_
    simp only [Exit.then]
    rename_i hK'
    exact hK' _ _ (hK _ _ _ ⟨0, s.kept, _, _, _, _, _, _, _, _, _, _, _, _, _, _, _, _, _, _, _, _, _, _, _, _, _, _, _, _, _, _, _, _, _, _, rfl, H0.out, rfl⟩)
  case pass =>
    rintro dd a wr ⟨i, F, u3, u5, u6, u7, u8, u9, u10, u11, u12, u13, u14, u15, u16, u17, u18, u19, u20, u21, u22, u23, u24, u25, u26, u27, u28, u29, u30, u31, u32, u33, u34, u35, u36, u37, rfl, hat, rfl⟩ K hK
    have HK := hid hK; clear hK
    have HA := hid hat
    obtain ⟨i1, i2, i3, i4, i5, h1, h2, h3, h4, hkr⟩ := hat
    obtain ⟨c0, c1, c2, c3, c4, c5, f0, f1, f2, f3, f4, f5⟩ := six_cells h1
    clear h1 h2 h3 i4 i5
    by_cases hlt : i < keep.length ∧ i < s.since.length
    · obtain ⟨hlt1, hlt2⟩ := hlt
      have hmin : (i : Int) < min (keep.length : Int) (s.since.length : Int) := by omega
      obtain ⟨b, hb⟩ : ∃ b, keep[i]? = some b := ⟨_, List.getElem?_eq_getElem hlt1⟩
      obtain ⟨pp, hp⟩ : ∃ p, s.since[i]? = some p := ⟨_, List.getElem?_eq_getElem hlt2⟩
      obtain ⟨kb, ko, rfl, hkc⟩ := hkr.addr (by omega)
      have hkc' := hkc i (.bool b) (by rw [List.getElem?_map, hb]; rfl)
      obtain ⟨g, cur, hsv, hg, htake⟩ : ∃ g cur, svp = some ⟨g, 0, none⟩ ∧ Blk wr g cur 101 ∧ cur.take (s.since.length * 513) = sinceCells s.since := by
        rcases h4.2 with ⟨q1, q2⟩ | ⟨g, cap, cur, q1, q2, q3, q4, q5, q6, q7⟩
        · omega
        · cases q1
          exact ⟨g, cur.toList, rfl, by rw [Blk, Array.toArray_toList]; exact q3, q7⟩
      subst hsv
      have hG := hid hg
      have hT := hid htake
      have hpl := hid (ok.out.since pp (List.mem_of_getElem? hp)).2
      have hWl : Hid ((wRow pp.1 pp.2).length = 513) := hid (by rw [wRow_length, hpl.out])
      have hkb : kb < wr.heap.size := World.block_lt_of_cell? wr ⟨kb, ko + i, none⟩ hkc'
      have hF : Hid (i * 513 + 513 ≤ cur.length ∧ (cur.drop (i * 513)).take 513 = wRow pp.1 pp.2) := hid (by
        have e1 : (sinceCells s.since).length = s.since.length * 513 := h4.1
        have e2 : (i + 1) * 513 ≤ s.since.length * 513 := Nat.mul_le_mul_right _ hlt2
        have e3 := congrArg List.length htake
        rw [List.length_take, e1] at e3
        refine ⟨by omega, ?_⟩
        rw [← since_row s.since (fun p hp => (ok.out.since p hp).2) i pp hp, ← htake, List.drop_take, List.take_take]
        congr 1
        omega)
      have hB := hid (And.intro hb hp)
      clear hkr h4 hkc hg htake hb hp
      go_wp2_with (first
        | (refine wpList_load_arr rfl 101 _ rfl _ Try.underlying101 rfl 513 wInfo1 g (i * 513) 101 cur rfl hG.out hF.out.1 (wRow pp.1 pp.2) hF.out.2 ?_)
        | (refine wpList_alloc_z rfl 101 rfl _ wInfo0 ?_; intro w1 hw1 hb1 hl1; have W1 := hid hw1; have B1 := hid hb1; clear hw1 hb1)
        | (refine wpList_store_arr rfl 101 _ _ rfl 513 wInfo1 _ 0 101 _ (wRow pp.1 pp.2) rfl rfl W1.out ?hs1 ?hs2 (wRow_one _ _) ?_; (case hs1 => exact hWl.out); (case hs2 => have := hWl.out; have := wZero_length; omega); intro w2 hw2 hc2 hs2; rw [splice_all _ _ (wZero_length.trans hWl.out.symm)] at hw2; have W2 := hid hw2; have C2 := hid (Chg.trans (Chg.new B1.out (fun q => q = wr.heap.size)) hc2 (fun _ _ h => h)); have L2 := hid hs2; clear hw2 hc2 hs2 W1; (have hkc2 := (CellTo (off := ko + i) C2.out (not_new hkb) hkb).trans hkc'); (have hD2 := HA.out.2.2.2.2.2.1.chg C2.out (not_new HA.out.2.2.2.2.2.1.lt)); (obtain ⟨c0', c1', c2', c3', c4', c5', f0', f1', f2', f3', f4', f5'⟩ := six_cells hD2); clear hD2))
      · have hp1 : pp.1 < n := (ok.out.since pp (List.mem_of_getElem? hB.out.2)).1
        have hp2 : (pp.1 + 1) * 512 ≤ n * 512 := Nat.mul_le_mul_right _ hp1
        have hpc : w2.cell? ⟨wr.heap.size, 0, none⟩ = some (.int .i64 (pp.1 : Int)) := by
          have h1 := (show Blk w2 wr.heap.size _ _ from W2.out).cell 0
          rw [h1]; rfl
        have hbk : Hid (Blk w2 bk (bv F) 99) := hid (HA.out.2.2.2.2.2.2.2.1.chg C2.out (not_new HA.out.2.2.2.2.2.2.2.1.lt))
        refine wp_region_still_tail 9 (by kernel_rfl) (by kernel_rfl) ?_
        simp only [List.take_succ_cons, List.take_zero, List.drop_succ_cons, List.drop_zero]
        repeat still_step
        refine wpStill_load_arr rfl 99 _ rfl _ Try.underlying99 rfl 512 sInfo1 wr.heap.size 1 101 _ rfl (show Blk w2 wr.heap.size _ _ from W2.out) (by rw [hWl.out]; omega) (bv pp.2) (by rw [wRow, List.drop_succ_cons, List.drop_zero]; exact List.take_of_length_le (by rw [bv_length, hpl.out]; omega)) ?_
        repeat still_step
        refine wpStill_nil ?_
        refine wpList_store_arr rfl 99 _ _ rfl 512 sInfo1 bk (pp.1 * 512) 99 (bv F) (bv pp.2) rfl rfl (hbk.out.chg (Chg.drewN (fp := fun _ => False) _ 1) (fun h => h)) (by rw [bv_length, hpl.out]) (by rw [bv_length, HA.out.2.2.1]; omega) (bv_one _) ?_
        intro w3 hw3 hc3 hs3
        rw [bv_splice] at hw3
        have C3 : Hid (Chg (fun q => q = wr.heap.size ∨ q = bk) wr w3) := hid ((C2.out.mono (fq := fun q => q = wr.heap.size ∨ q = bk) (fun _ _ h => .inl h)).trans hc3.drewN' (fun _ _ h => .inr h))
        have W3 := hid hw3
        clear hw3 hc3 hs3
        go_wp2_with fail
        refine wp_goto ?_
        simp only [Exit.then, Exit.jump, true_and]
        refine HK.out (s.since.length - (i + 1)) _ _ (by omega) ⟨i + 1, setRowAt F pp.1 pp.2, _, _, _, _, _, _, _, _, _, _, _, _, _, _, _, _, _, _, _, _, _, _, _, _, _, _, _, _, _, _, _, _, _, _, rfl, crash_step HA.out C3.out W3.out (if_pos (by assumption)).symm hB.out.1 hB.out.2 ok.out G5.out G9.out.2.2.1 G8.out KN.out, rfl⟩
      · refine wp_goto ?_
        simp only [Exit.then, Exit.jump, true_and]
        have C3 : Hid (Chg (fun q => q = wr.heap.size ∨ q = bk) wr w2) := hid (C2.out.mono (fq := fun q => q = wr.heap.size ∨ q = bk) (fun _ _ h => .inl h))
        refine HK.out (s.since.length - (i + 1)) _ _ (by omega) ⟨i + 1, F, _, _, _, _, _, _, _, _, _, _, _, _, _, _, _, _, _, _, _, _, _, _, _, _, _, _, _, _, _, _, _, _, _, _, rfl, crash_step HA.out C3.out (HA.out.2.2.2.2.2.2.2.1.chg C2.out (not_new HA.out.2.2.2.2.2.2.2.1.lt)) (if_neg (by simp [*])).symm hB.out.1 hB.out.2 ok.out G5.out G9.out.2.2.1 G8.out KN.out, rfl⟩
    · have hmin : ¬ ((i : Int) < min (keep.length : Int) (s.since.length : Int)) := by omega
      go_wp2_with fail
      have hD := HA.out.2.2.2.2.2.1
      have hN := HA.out.2.2.2.2.2.2.1
      have hK := HA.out.2.2.2.2.2.2.2.1
      have hFl := HA.out.2.2.1
      refine wp_region_still_tail 8 (by kernel_rfl) (by kernel_rfl) ?_
      simp only [List.take_succ_cons, List.take_zero, List.drop_succ_cons, List.drop_zero]
      repeat still_step
      refine wpStill_nil ?_
      have hr := Rd.blk (off := 0) (n := n) (c := n) (size := 512) hK (Nat.le_refl _) (by simp only [maxLen]; omega) (by rw [bv_length, hFl]; omega)
      rw [List.drop_zero, List.take_of_length_le (by rw [bv_length, hFl]; omega)] at hr
      have HR := hid hr
      clear hr
      refine wpList_copy_gen rfl _ _ 83 83 rfl 99 512 Try.underlying83 sInfo1 bn 0 n n rfl _ _ (hN.chg (Chg.drewN (fp := fun _ => False) _ 1) (fun h => h)) _ rfl n (bv F) ?hr1 ?hr2 (bv_one _) ?_
      case hr1 => exact HR.out.chg (Chg.drewN (fp := fun _ => False) _ 1) (fun _ _ _ _ h => h)
      case hr2 => rw [bv_length, ok.out.now]; omega
      intro w9 hw9 hc9 hs9
      have W9 := hid hw9
      have C9 := hid hc9.drewN'
      have L9 := hid hs9
      have HD := hid (hD.chg C9.out (fun h => G5.out.1 h))
      have HK2 := hid (hK.chg C9.out (fun h => G5.out.2.2 h.symm))
      obtain ⟨d0, d1, d2, d3, d4, d5, g0, g1, g2, g3, g4, g5⟩ := six_cells HD.out
      clear hw9 hc9 hs9 hD hN hK hFl c0 c1 c2 c3 c4 c5 f0 f1 f2 f3 f4 f5 hkr h4
      go_wp2_with fail
      go_end0
      have okk := ok.out
      have CD : Hid (Chg (fun q => q = d) w9 (((w9.setCell ⟨d, 2, none⟩ (.slice none 0 0)).setCell ⟨d, 3, none⟩ (.int .i64 0)).setCell ⟨d, 5, none⟩ (.bool false))) := hid
        (((Chg.setCell (fp := fun k => k = d) _ rfl _).trans (Chg.setCell (fp := fun k => k = d) _ rfl _) (fun _ _ h => h)).trans (Chg.setCell (fp := fun k => k = d) _ rfl _) (fun _ _ h => h))
      have hF : dKept keep s.since s.kept = F := by
        rw [← HA.out.2.2.2.1]
        exact dKept_end (by omega)
      have hFl := HA.out.2.2.1
      refine ⟨rfl, ⟨bn, bk, _, ((HD.out.set 2 _).set 3 _).set 5 _, ?_, ?_, World.ownsRow_nil _ _ _ _, G5.out.1, G5.out.2.1, G5.out.2.2, (fun g hg => by cases hg), G9.out.1, G9.out.2.1, G9.out.2.2.1, fun q hq => ?_, ⟨okk.n1, okk.n2, ?_, ?_, (fun p hp => by cases hp), ?_, Int.le_refl _, ?_, okk.ops1⟩⟩, ?_⟩
      · have h1 := (show Blk w9 bn _ _ from W9.out).chg CD.out (fun h => G5.out.1 h.symm)
        rw [List.take_of_length_le (by rw [bv_length, hFl]; omega), splice_all _ _ (by rw [bv_length, bv_length, hFl, okk.now])] at h1
        show Blk _ bn (bv (dKept keep s.since s.kept)) _
        rw [hF]; exact h1
      · show Blk _ bk (bv (dKept keep s.since s.kept)) _
        rw [hF]; exact HK2.out.chg CD.out (fun h => G5.out.2.1 h.symm)
      · have := G9.out.2.2.2 q hq
        have h1 := C9.out.size
        have h2 := CD.out.size
        have h3 := HA.out.2.2.2.2.1.size
        omega
      · show (dKept keep s.since s.kept).length = _
        rw [hF]; exact hFl
      · show (dKept keep s.since s.kept).length = _
        rw [hF]; exact hFl
      · have := okk.many
        show (0 : Int) ≤ s.ops
        omega
      · show (0 : Int) ≤ 9223372036854775807
        omega
      · refine (HA.out.2.2.2.2.1.trans C9.out (fun q hq h => ?_)).trans CD.out (fun q hq h => ?_)
        · have h2 : q = bn := h
          rw [h2]; exact G9.out.2.1
        · have h2 : q = d := h
          rw [h2]; exact G9.out.1
end Go.Proofs.Ytiphekepglihlaa
