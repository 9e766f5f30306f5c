/- package disk: Sync, Crash, New. -/
import Derived.Test.YtdilkgcoecipjaaDisk
namespace Go.Proofs.Ytdilkgcoecipjaa
open Go.RowKit
set_option linter.unusedVariables false

theorem dStep_ok {n : Nat} {s : DS} (h : DOk n s) (ho : s.ops ≤ 1000000) : DOk n (dStep s) := by
  have hst := dStep_stop s h.stop0
  have := h.stop1
  have := h.many
  refine ⟨h.n1, h.n2, ?_, ?_, ?_, ?_, hst.1, by omega, ?_⟩
  · rw [dStep_now]; exact h.now
  · rw [dStep_kept]; exact h.kept
  · rw [dStep_since]; exact h.since
  · rw [dStep_since, dStep_ops]; omega
  · rw [dStep_ops]; omega

theorem dStep_any (w : World) (d : Nat) (fp : Nat → Prop) (n : Nat) (s : DS) (h : Dsk w d fp n s) (ho : s.ops ≤ 1000000) :
    Calls Try.prog 84 #[.pointer (some ⟨d, 0, none⟩)] w fun e w' => e = .returned (.bool (dStepGone s)) ∧ Dsk w' d fp n (dStep s) ∧ Chg fp w w' ∧ w'.heap.size = w.heap.size := by
  obtain ⟨bn, bk, sv, h1, h2, h3, h4, h5, h6, h7, h8, h9, h10, h11, h12, h13⟩ := h
  refine (dStep_raw w d _ _ _ s h1 h13.stop0 h13.stop1 (by have := h13.many; omega) ho).mono ?_
  rintro e w' ⟨rfl, g1, g2, g3⟩
  obtain ⟨r1, r2⟩ := dsk_head (s' := dStep s) h2 h3 h4 h5 h6 h7 h8 h9 h10 h11 h12 g1 g2 (dStep_now s) (dStep_kept s) (dStep_since s) (dStep_ok h13 ho)
  exact ⟨rfl, r1, r2, g3⟩

/-- a sync -/
def dSynced (s : DS) : DS := { s with kept := s.now, since := [] }
def dSync (s : DS) : DS × Int := if s.dead then (s, 13) else if dStepGone s then (dStep s, 13) else (dSynced (dStep s), 0)

set_option maxRecDepth 100000 in
theorem dSync_any (w : World) (d : Nat) (fp : Nat → Prop) (n : Nat) (s : DS) (h : Dsk w d fp n s) (ho : s.ops ≤ 1000000) :
    Calls Try.prog 72 #[.pointer (some ⟨d, 0, none⟩)] w fun e w' => e = .returned (.int .i64 (dSync s).2) ∧ Dsk w' d fp n (dSync s).1 ∧ Chg fp w w' ∧ w'.heap.size = w.heap.size := by
  have HS := hid (dStep_any w d fp n s h ho)
  have H := hid h
  obtain ⟨bn, bk, sv, h1, _⟩ := h
  obtain ⟨c0, c1, c2, c3, c4, c5, f0, f1, f2, f3, f4, f5⟩ := six_cells h1
  clear h1
  by_cases hdead : s.dead = true
  · rw [hdead] at c5
    have e1 : dSync s = (s, 13) := if_pos hdead
    rw [e1]
    clear hdead e1
    go_enter Try.func72, Try.ntmps72
    go_wp2_with fail
    go_ret
    exact ⟨rfl, H.out, Chg.refl _ _, rfl⟩
  have hdead' : s.dead = false := by simpa using hdead
  rw [hdead'] at c5
  cases hgo : dStepGone s with
  | true =>
    have e1 : dSync s = (dStep s, 13) := by unfold dSync; rw [if_neg hdead, if_pos hgo]
    rw [e1]
    clear hdead e1 hdead'
    go_enter Try.func72, Try.ntmps72
    go_wp2_with (first
      | (go_at_call 84; refine HS.out.mono ?_; rintro e8 w8 ⟨rfl, h8, h9, h10⟩; (have H8 := hid h8); (have C8 := hid h9); (have L8 := hid h10); clear h8 h9 h10; rw [hgo]))
    all_goals (go_ret; exact ⟨rfl, H8.out, C8.out, L8.out⟩)
  | false =>
    have e1 : dSync s = (dSynced (dStep s), 0) := by unfold dSync; rw [if_neg hdead, if_neg (by rw [hgo]; simp)]
    rw [e1]
    clear hdead e1 hdead'
    go_enter Try.func72, Try.ntmps72
    go_wp2_with (first
      | (go_at_call 84; refine HS.out.mono ?_; rintro e8 w8 ⟨rfl, h8, h9, h10⟩; (have H8 := hid h8); (have C8 := hid h9); (have L8 := hid h10); clear h8 h9 h10; rw [hgo]))
    obtain ⟨bn', bk', sv', h1, h2, h3, h4, h5, h6, h7, h8, h9, h10, h11, h12, h13⟩ := H8.out
    obtain ⟨d0, d1, d2, d3, d4, d5, g0, g1, g2, g3, g4, g5⟩ := six_cells h1
    clear c0 c1 c2 c3 c4 c5 f0 f1 f2 f3 f4 f5
    have G1 := hid h1
    have G2 := hid h2
    have G3 := hid h3
    have G5 := hid (And.intro h5 (And.intro h6 h7))
    have G9 := hid (And.intro h9 (And.intro h10 (And.intro h11 h12)))
    have ok := hid h13
    have hn := h13.n2
    clear h1 h2 h3 h4 h5 h6 h7 h8 h9 h10 h11 h12 h13
    refine wp_region_still_tail 8 (by kernel_rfl) (by kernel_rfl) ?_
    simp only [List.take_succ_cons, List.take_zero, List.drop_succ_cons, List.drop_zero]
    repeat still_step
    refine wpStill_nil ?_
    have hr := Rd.blk (off := 0) (n := n) (c := n) (size := 512) G2.out (Nat.le_refl _) (by simp only [maxLen]; omega) (by rw [bv_length, ok.out.now]; omega)
    rw [List.drop_zero, List.take_of_length_le (by rw [bv_length, ok.out.now]; omega)] at hr
    have HR := hid hr
    clear hr
    refine wpList_copy_gen rfl _ _ 88 88 rfl 111 512 Try.underlying88 sInfo1 bk' 0 n n rfl _ _ (G3.out.chg (Chg.drewN (fp := fun _ => False) _ 1) (fun h => h)) _ rfl n (bv (dStep s).now) ?hr1 ?hr2 (bv_one _) ?_
    case hr1 => exact HR.out.chg (Chg.drewN (fp := fun _ => False) _ 1) (fun _ _ _ _ h => h)
    case hr2 => rw [bv_length, ok.out.kept]; omega
    intro w9 hw9 hc9 hs9
    have W9 := hid hw9
    have C9 := hid hc9.drewN'
    have L9 := hid hs9
    have G1' := hid (G1.out.chg C9.out (fun h => G5.out.2.1 h))
    obtain ⟨d0, d1, d2, d3, d4, d5, g0, g1, g2, g3, g4, g5⟩ := six_cells G1'.out
    clear hw9 hc9 hs9
    go_wp2_with fail
    all_goals (
      go_ret
      have ok := ok.out
      refine ⟨rfl, ⟨bn', bk', _, G1'.out.set 2 _, ?_, ?_, World.ownsRow_nil _ _ _ _, G5.out.1, G5.out.2.1, G5.out.2.2, (fun g hg => by cases hg), G9.out.1, G9.out.2.1, G9.out.2.2.1, fun q hq => ?_, ⟨ok.n1, ok.n2, ok.now, ok.now, (fun p hp => by cases hp), ?_, ok.stop0, ok.stop1, ok.ops1⟩⟩, ?_, ?_⟩
      · exact (G2.out.chg C9.out (fun h => G5.out.2.2 h)).chg (Chg.setCell (fp := fun q => q = d) _ rfl _) (fun h => G5.out.1 h.symm)
      · have h1 := (show Blk w9 bk' _ _ from W9.out).chg (Chg.setCell (fp := fun q => q = d) w9 (a := ⟨d, 2, none⟩) rfl (Value.slice none 0 0)) (fun h => G5.out.2.1 h.symm)
        rw [List.take_of_length_le (by rw [bv_length, ok.now]; omega), splice_all _ _ (by rw [bv_length, bv_length, ok.kept, ok.now])] at h1
        exact h1
      · have := G9.out.2.2.2 q hq
        have h1 := C9.out.size
        simp [World.setCell]; omega
      · have := ok.many
        show (0 : Int) ≤ (dStep s).ops
        omega
      · refine (C8.out.trans C9.out (fun q hq h => ?_)).trans (Chg.setCell (fp := fun q => q = d) _ rfl _) (fun q hq h => ?_)
        · have h2 : q = bk' := h
          rw [h2]; exact G9.out.2.2.1
        · have h2 : q = d := h
          rw [h2]; exact G9.out.1
      · have h1 : w9.heap.size = w8.heap.size := L9.out
        have h2 := L8.out
        simp [World.setCell]; omega)

/-- which of the writes stay -/
def dKept : List Bool → List (Nat × List UInt8) → List UInt8 → List UInt8
  | b :: bs, p :: ps, F => dKept bs ps (if b then setRowAt F p.1 p.2 else F)
  | _, _, F => F
theorem dKept_nil1 (ps : List (Nat × List UInt8)) (F : List UInt8) : dKept [] ps F = F := rfl
theorem dKept_nil2 (bs : List Bool) (F : List UInt8) : dKept bs [] F = F := by cases bs <;> rfl
theorem dKept_step {bs : List Bool} {ps : List (Nat × List UInt8)} {F : List UInt8} {i : Nat} {b : Bool} {p : Nat × List UInt8} (h1 : bs[i]? = some b) (h2 : ps[i]? = some p) :
    dKept (bs.drop i) (ps.drop i) F = dKept (bs.drop (i + 1)) (ps.drop (i + 1)) (if b then setRowAt F p.1 p.2 else F) := by
  obtain ⟨l1, e1⟩ := List.getElem?_eq_some_iff.1 h1
  obtain ⟨l2, e2⟩ := List.getElem?_eq_some_iff.1 h2
  rw [List.drop_eq_getElem_cons l1, List.drop_eq_getElem_cons l2, e1, e2]
  rfl
theorem dKept_end {bs : List Bool} {ps : List (Nat × List UInt8)} {F : List UInt8} {i : Nat} (h : bs.length ≤ i ∨ ps.length ≤ i) : dKept (bs.drop i) (ps.drop i) F = F := by
  rcases h with h | h
  · rw [List.drop_eq_nil_of_le h]; rfl
  · rw [List.drop_eq_nil_of_le h, dKept_nil2]

def dCrash (s : DS) (keep : List Bool) : DS := { now := dKept keep s.since s.kept, kept := dKept keep s.since s.kept, since := [], stop := 0, ops := s.ops, dead := false }

theorem since_row (l : List (Nat × List UInt8)) (hl : ∀ p ∈ l, p.2.length = 512) (i : Nat) (p : Nat × List UInt8) (h : l[i]? = some p) : ((sinceCells l).drop (i * 513)).take 513 = wRow p.1 p.2 := by
  induction l generalizing i with
  | nil => simp at h
  | cons q qs ih =>
    have hq : q.2.length = 512 := hl q (by simp)
    have e : sinceCells (q :: qs) = wRow q.1 q.2 ++ sinceCells qs := by simp [sinceCells, wRow]
    rw [e]
    cases i with
    | zero =>
      simp only [List.getElem?_cons_zero, Option.some.injEq] at h
      subst h
      rw [Nat.zero_mul, List.drop_zero, List.take_left' (by rw [wRow_length, hq])]
    | succ i =>
      rw [List.getElem?_cons_succ] at h
      have e2 : (i + 1) * 513 = 513 + i * 513 := by omega
      rw [e2, ← List.drop_drop, List.drop_left' (by rw [wRow_length, hq])]
      exact ih (fun p hp => hl p (by simp [hp])) i h
end Go.Proofs.Ytdilkgcoecipjaa
