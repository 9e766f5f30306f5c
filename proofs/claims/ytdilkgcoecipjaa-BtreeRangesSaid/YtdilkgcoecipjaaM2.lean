/- package disk: a disk in memory, as pure data, and what its calls do. package disk: Sync, Crash, New. package disk: Crash, New. package disk: New. package disk: calls in one word. DAll what a remainder is, made no less than nought. Arguments that came in: slices of integers and bytes, as they are read. Arguments that came in: slices of truth values. -/
import Derived.Test.YtdilkgcoecipjaaRows
import Derived.Test.YtdilkgcoecipjaaM1
import Derived.Lib.MinMax
import Derived.ProofKit
import Derived.Deep.Grids
namespace Go.Proofs.Ytdilkgcoecipjaa
open Go.RowKit
set_option linter.unusedVariables false


/-- a disk: as it is, as it was synced, the writes since, the steps left, the steps done, is the power gone -/
structure DS where
  now : List UInt8
  kept : List UInt8
  since : List (Nat × List UInt8)
  stop : Int
  ops : Int
  dead : Bool

structure DOk (n : Nat) (s : DS) : Prop where
  n1 : 1 ≤ n
  n2 : n ≤ 3000
  now : s.now.length = n * 512
  kept : s.kept.length = n * 512
  since : ∀ p ∈ s.since, p.1 < n ∧ p.2.length = 512
  many : (s.since.length : Int) ≤ s.ops
  stop0 : 0 ≤ s.stop
  stop1 : s.stop ≤ 9223372036854775807
  ops1 : s.ops ≤ 2000000

def row (F : List UInt8) (k : Nat) : List UInt8 := (F.drop (k * 512)).take 512
def setRowAt (F : List UInt8) (k : Nat) (r : List UInt8) : List UInt8 := splice F (k * 512) r
def pad (b : List UInt8) : List UInt8 := b ++ List.replicate (512 - b.length) 0

theorem splice_length {α : Type} (L X : List α) (k : Nat) (h : k + X.length ≤ L.length) : (splice L k X).length = L.length := by unfold splice; simp; omega

def sinceCells (l : List (Nat × List UInt8)) : List Value := l.flatMap fun p => Value.int .i64 (p.1 : Int) :: bv p.2

theorem row_length {F : List UInt8} {n k : Nat} (h : F.length = n * 512) (hk : k < n) : (row F k).length = 512 := by
  unfold row
  have : (k + 1) * 512 ≤ n * 512 := Nat.mul_le_mul_right _ hk
  simp; omega
theorem pad_length {b : List UInt8} (h : b.length ≤ 512) : (pad b).length = 512 := by unfold pad; rw [List.length_append, List.length_replicate]; omega

/-- a disk at a block; fp: the blocks that are its own -/
def Dsk (w : World) (d : Nat) (fp : Nat → Prop) (n : Nat) (s : DS) : Prop :=
  ∃ bn bk sv, Blk w d [.slice (some ⟨bn, 0, none⟩) n n, .slice (some ⟨bk, 0, none⟩) n n, sv, .int .i64 s.stop, .int .i64 s.ops, .bool s.dead] 91 ∧
    Blk w bn (bv s.now) 111 ∧ Blk w bk (bv s.kept) 111 ∧ w.ownsRow 0 145 513 sv s.since.length (sinceCells s.since) ∧
    d ≠ bn ∧ d ≠ bk ∧ bn ≠ bk ∧ (∀ g, sv.ownBlock = some g → g ≠ d ∧ g ≠ bn ∧ g ≠ bk ∧ fp g) ∧ fp d ∧ fp bn ∧ fp bk ∧ (∀ k, fp k → k < w.heap.size) ∧ DOk n s

/-- what a call on a disk leaves -/
def DskTo (w : World) (d : Nat) (fp : Nat → Prop) (n : Nat) (s : DS) (w' : World) : Prop :=
  ∃ fp', Dsk w' d fp' n s ∧ Chg fp w w' ∧ ∀ k, fp' k → fp k ∨ w.heap.size ≤ k

theorem Dsk.ok {w : World} {d : Nat} {fp : Nat → Prop} {n : Nat} {s : DS} (h : Dsk w d fp n s) : DOk n s := by
  obtain ⟨_, _, _, _, _, _, _, _, _, _, _, _, _, _, _, h⟩ := h; exact h
theorem Dsk.lt {w : World} {d : Nat} {fp : Nat → Prop} {n : Nat} {s : DS} (h : Dsk w d fp n s) : ∀ k, fp k → k < w.heap.size := by
  obtain ⟨_, _, _, _, _, _, _, _, _, _, _, _, _, _, h, _⟩ := h; exact h

theorem own_chg {w w' : World} {fp : Nat → Prop} {b t sz n : Nat} {v : Value} {xs : List Value} (h : w.ownsRow b t sz v n xs) (hc : Chg fp w w') (hn : ∀ g, v.ownBlock = some g → ¬ fp g) : w'.ownsRow b t sz v n xs := by
  refine ⟨h.1, ?_⟩
  rcases h.2 with h2 | ⟨g, cap, cur, rfl, hb, hg, r⟩
  · exact .inl h2
  · exact .inr ⟨g, cap, cur, rfl, hb, hc.heap hg (hn g rfl), r⟩

/-- a disk that nobody touches stays as it is -/
theorem Dsk.chg {w w' : World} {d : Nat} {fp fq : Nat → Prop} {n : Nat} {s : DS} (h : Dsk w d fp n s) (hc : Chg fq w w') (hn : ∀ k, fp k → ¬ fq k) : Dsk w' d fp n s := by
  obtain ⟨bn, bk, sv, h1, h2, h3, h4, h5, h6, h7, h8, h9, h10, h11, h12, h13⟩ := h
  exact ⟨bn, bk, sv, h1.chg hc (hn _ h9), h2.chg hc (hn _ h10), h3.chg hc (hn _ h11), own_chg h4 hc (fun g hg => hn g (h8 g hg).2.2.2), h5, h6, h7, h8, h9, h10, h11, fun k hk => Nat.lt_of_lt_of_le (h12 k hk) hc.size, h13⟩

theorem Dsk.to {w : World} {d : Nat} {fp : Nat → Prop} {n : Nat} {s : DS} (h : Dsk w d fp n s) : DskTo w d fp n s w := ⟨fp, h, Chg.refl _ _, fun _ h => .inl h⟩
theorem DskTo.trans {w w1 w2 : World} {d : Nat} {fp fp1 : Nat → Prop} {n : Nat} {s2 : DS} (hc : Chg fp w w1) (hf : ∀ k, fp1 k → fp k ∨ w.heap.size ≤ k) (h : DskTo w1 d fp1 n s2 w2) : DskTo w d fp n s2 w2 := by
  obtain ⟨fp2, h1, h2, h3⟩ := h
  refine ⟨fp2, h1, hc.trans h2 (fun i hi hq => (hf i hq).resolve_right (by omega)), fun k hk => ?_⟩
  rcases h3 k hk with h | h
  · exact hf k h
  · exact .inr (Nat.le_trans hc.size h)

theorem six_cells {w : World} {r : Nat} {x0 x1 x2 x3 x4 x5 : Value} {T : TypeId} (h : Blk w r [x0, x1, x2, x3, x4, x5] T) :
    w.cell? ⟨r, 0, none⟩ = some x0 ∧ w.cell? ⟨r, 1, none⟩ = some x1 ∧ w.cell? ⟨r, 2, none⟩ = some x2 ∧ w.cell? ⟨r, 3, none⟩ = some x3 ∧ w.cell? ⟨r, 4, none⟩ = some x4 ∧ w.cell? ⟨r, 5, none⟩ = some x5 ∧
    w.frozen? ⟨r, 0, none⟩ = false ∧ w.frozen? ⟨r, 1, none⟩ = false ∧ w.frozen? ⟨r, 2, none⟩ = false ∧ w.frozen? ⟨r, 3, none⟩ = false ∧ w.frozen? ⟨r, 4, none⟩ = false ∧ w.frozen? ⟨r, 5, none⟩ = false := by
  refine ⟨?_, ?_, ?_, ?_, ?_, ?_, h.frozen 0, h.frozen 1, h.frozen 2, h.frozen 3, h.frozen 4, h.frozen 5⟩ <;> rw [h.cell] <;> rfl

theorem dSize_any (w : World) (d : Nat) (fp : Nat → Prop) (n : Nat) (s : DS) (h : Dsk w d fp n s) :
    Calls Try.prog 35 #[.pointer (some ⟨d, 0, none⟩)] w fun e w' => e = .returned (.int .i64 n) ∧ w = w' := by
  obtain ⟨bn, bk, sv, h1, _⟩ := h
  obtain ⟨c0, c1, c2, c3, c4, c5, f0, f1, f2, f3, f4, f5⟩ := six_cells h1
  clear h1
  go_enter Try.func35, Try.ntmps35
  go_wp2
  go_ret
  exact ⟨rfl, rfl⟩
theorem dThere_any (w : World) (d : Nat) (fp : Nat → Prop) (n : Nat) (s : DS) (at_ : Int) (h : Dsk w d fp n s) :
    Calls Try.prog 57 #[.pointer (some ⟨d, 0, none⟩), .int .i64 at_] w fun e w' => e = .returned (.bool (decide (0 ≤ at_ ∧ at_ < n))) ∧ w = w' := by
  obtain ⟨bn, bk, sv, h1, _⟩ := h
  obtain ⟨c0, c1, c2, c3, c4, c5, f0, f1, f2, f3, f4, f5⟩ := six_cells h1
  clear h1
  by_cases h0 : 0 ≤ at_
  · go_enter Try.func57, Try.ntmps57
    go_wp2
    go_ret
    exact ⟨by simp [h0], rfl⟩
  · have hd : decide (0 ≤ at_) = false := by simpa using h0
    go_enter Try.func57, Try.ntmps57
    go_wp2
    go_ret
    exact ⟨by simp, rfl⟩

/-- a step -/
def dStep (s : DS) : DS := if s.stop < 1 then { s with ops := s.ops + 1 } else { s with ops := s.ops + 1, stop := s.stop - 1, dead := (s.stop - 1 == 0) }
def dStepGone (s : DS) : Bool := if s.stop < 1 then false else (s.stop - 1 == 0)

/-- only the head of a disk turns -/
theorem dsk_head {w w' : World} {d : Nat} {fp : Nat → Prop} {n : Nat} {s s' : DS} {bn bk : Nat} {sv : Value} (h2 : Blk w bn (bv s.now) 111) (h3 : Blk w bk (bv s.kept) 111)
    (h4 : w.ownsRow 0 145 513 sv s.since.length (sinceCells s.since)) (h5 : d ≠ bn) (h6 : d ≠ bk) (h7 : bn ≠ bk) (h8 : ∀ g, sv.ownBlock = some g → g ≠ d ∧ g ≠ bn ∧ g ≠ bk ∧ fp g) (h9 : fp d) (h10 : fp bn) (h11 : fp bk)
    (h12 : ∀ k, fp k → k < w.heap.size) (hb : Blk w' d [.slice (some ⟨bn, 0, none⟩) n n, .slice (some ⟨bk, 0, none⟩) n n, sv, .int .i64 s'.stop, .int .i64 s'.ops, .bool s'.dead] 91)
    (hc : Chg (fun k => k = d) w w') (e1 : s'.now = s.now) (e2 : s'.kept = s.kept) (e3 : s'.since = s.since) (h13 : DOk n s') : Dsk w' d fp n s' ∧ Chg fp w w' := by
  refine ⟨⟨bn, bk, sv, hb, ?_, ?_, ?_, h5, h6, h7, h8, h9, h10, h11, fun k hk => Nat.lt_of_lt_of_le (h12 k hk) hc.size, h13⟩, hc.mono fun k _ hk => by rw [hk]; exact h9⟩
  · rw [e1]; exact h2.chg hc (fun h => h5 h.symm)
  · rw [e2]; exact h3.chg hc (fun h => h6 h.symm)
  · rw [e3]; exact own_chg h4 hc (fun g hg => (h8 g hg).1)

/-- a step, on the head alone -/
theorem dStep_raw (w : World) (d : Nat) (x0 x1 x2 : Value) (s : DS) (h1 : Blk w d [x0, x1, x2, .int .i64 s.stop, .int .i64 s.ops, .bool s.dead] 91) (hs0 : 0 ≤ s.stop) (hs1 : s.stop ≤ 9223372036854775807) (ho0 : 0 ≤ s.ops) (ho : s.ops ≤ 1000000) :
    Calls Try.prog 84 #[.pointer (some ⟨d, 0, none⟩)] w fun e w' => e = .returned (.bool (dStepGone s)) ∧
      Blk w' d [x0, x1, x2, .int .i64 (dStep s).stop, .int .i64 (dStep s).ops, .bool (dStep s).dead] 91 ∧ Chg (fun k => k = d) w w' ∧ w'.heap.size = w.heap.size := by
  obtain ⟨c0, c1, c2, c3, c4, c5, f0, f1, f2, f3, f4, f5⟩ := six_cells h1
  have H := hid h1
  clear h1
  by_cases hst : s.stop < 1
  · have e1 : dStep s = { s with ops := s.ops + 1 } := if_pos hst
    have e2 : dStepGone s = false := if_pos hst
    rw [e1, e2]
    go_enter Try.func84, Try.ntmps84
    go_wp2
    go_ret
    exact ⟨rfl, H.out.set 4 _, Chg.setCell (fp := fun k => k = d) _ rfl _, by simp [World.setCell]⟩
  · have e1 : dStep s = { s with ops := s.ops + 1, stop := s.stop - 1, dead := (s.stop - 1 == 0) } := if_neg hst
    have e2 : dStepGone s = (s.stop - 1 == 0) := if_neg hst
    rw [e1, e2]
    go_enter Try.func84, Try.ntmps84
    go_wp2
    go_ret
    have hc : Chg (fun k => k = d) w (((w.setCell ⟨d, 4, none⟩ (.int .i64 (s.ops + 1))).setCell ⟨d, 3, none⟩ (.int .i64 (s.stop - 1))).setCell ⟨d, 5, none⟩ (.bool (s.stop - 1 == 0))) :=
      ((Chg.setCell (fp := fun k => k = d) _ rfl _).trans (Chg.setCell (fp := fun k => k = d) _ rfl _) (fun _ _ h => h)).trans (Chg.setCell (fp := fun k => k = d) _ rfl _) (fun _ _ h => h)
    exact ⟨rfl, ((H.out.set 4 _).set 3 _).set 5 _, hc, by simp [World.setCell]⟩

theorem dStep_now (s : DS) : (dStep s).now = s.now := by unfold dStep; split <;> rfl
theorem dStep_kept (s : DS) : (dStep s).kept = s.kept := by unfold dStep; split <;> rfl
theorem dStep_since (s : DS) : (dStep s).since = s.since := by unfold dStep; split <;> rfl
theorem dStep_ops (s : DS) : (dStep s).ops = s.ops + 1 := by unfold dStep; split <;> rfl
theorem dStep_stop (s : DS) (h0 : 0 ≤ s.stop) : 0 ≤ (dStep s).stop ∧ (dStep s).stop ≤ s.stop := by unfold dStep; split <;> simp only <;> omega

theorem dRead_err (w : World) (d : Nat) (fp : Nat → Prop) (n : Nat) (s : DS) (at_ : Int) (h : Dsk w d fp n s) (hbad : s.dead = true ∨ ¬ (0 ≤ at_ ∧ at_ < n)) :
    Calls Try.prog 37 #[.pointer (some ⟨d, 0, none⟩), .int .i64 at_] w fun e w' => e = .returned (.tuple #[.slice none 0 0, .int .i64 (if s.dead then 13 else 1)]) ∧ w = w' := by
  have HT := hid (dThere_any w d fp n s at_ h)
  obtain ⟨bn, bk, sv, h1, _⟩ := h
  obtain ⟨c0, c1, c2, c3, c4, c5, f0, f1, f2, f3, f4, f5⟩ := six_cells h1
  clear h1
  by_cases hdead : s.dead = true
  · rw [hdead] at c5
    rw [hdead]
    go_enter Try.func37, Try.ntmps37
    go_wp2_with fail
    go_ret2
    exact ⟨rfl, rfl⟩
  · have hdead' : s.dead = false := by simpa using hdead
    have hb := hbad.resolve_left hdead
    have hdt : decide (0 ≤ at_ ∧ at_ < n) = false := by simpa using hb
    have HT2 := hid (hdt ▸ HT.out)
    rw [hdead'] at c5
    rw [hdead']
    clear hdead hbad hb hdt
    go_enter Try.func37, Try.ntmps37
    go_wp2_with (first | (go_at_call 57; refine HT2.out.mono ?_; rintro e1 wx ⟨rfl, rfl⟩))
    go_ret2
    exact ⟨rfl, rfl⟩

theorem rd_row {w : World} {bn n k : Nat} {F : List UInt8} {T : TypeId} (h : Blk w bn (bv F) T) (hF : F.length = n * 512) (hk : k < n) :
    Rd w 1 (.slice (some ⟨bn, k * 512, none⟩) 512 512) 512 (bv (row F k)) := by
  have hle : (k + 1) * 512 ≤ n * 512 := Nat.mul_le_mul_right _ hk
  have h1 := Rd.blk (off := k * 512) (n := 512) (c := 512) (size := 1) h (Nat.le_refl _) (by simp only [maxLen]; omega) (by simp [hF]; omega)
  rw [Nat.mul_one, bv_drop, bv_take] at h1
  exact h1

set_option maxRecDepth 100000 in
theorem dRead_ok (w : World) (d : Nat) (fp : Nat → Prop) (n : Nat) (s : DS) (k : Nat) (h : Dsk w d fp n s) (hdead : s.dead = false) (hk : k < n) :
    Calls Try.prog 37 #[.pointer (some ⟨d, 0, none⟩), .int .i64 k] w fun e w' => ∃ g, e = .returned (.tuple #[.slice (some ⟨g, 0, none⟩) 512 512, .int .i64 0]) ∧ w.heap.size ≤ g ∧ Blk w' g (bv (row s.now k)) 5 ∧ Below w.heap.size w w' := by
  have hdt : decide (0 ≤ (k : Int) ∧ (k : Int) < n) = true := by simp; omega
  have HT := hid (hdt ▸ dThere_any w d fp n s k h)
  obtain ⟨bn, bk, sv, h1, h2, h3, h4, h5, h6, h7, h8, h9, h10, h11, h12, h13⟩ := h
  obtain ⟨c0, c1, c2, c3, c4, c5, f0, f1, f2, f3, f4, f5⟩ := six_cells h1
  have hn := h13.n2
  rw [hdead] at c5
  have hrl := row_length h13.now hk
  have hlt := h2.lt
  have HR := hid (fun (wq : World) (hq : Blk wq bn (bv s.now) 111) => rd_row hq h13.now hk)
  have H2 := hid h2
  have hd := (Array.getElem?_eq_some_iff.1 h1).1
  clear h1 h2 h3 h4 h5 h6 h7 h8 h9 h10 h11 h12 h13 hdt hdead
  generalize row s.now k = R at hrl HR ⊢
  have HL := hid hrl
  clear hrl
  go_enter Try.func37, Try.ntmps37
  go_wp2_with (first
    | (go_at_call 57; refine HT.out.mono ?_; rintro e1 wx ⟨rfl, rfl⟩)
    | (at_make; refine wpList_make_blk rfl _ _ 30 rfl 5 _ 1 1 Try.underlying30 infoU8 _ _ _ _ 512 rfl rfl rfl rfl (by omega) (by simp only [maxLen]; omega) ?_; intro w1 hh hb1 hl1; rw [made_bytes] at hh; have HM := hid hh; have HB := hid hb1; have c0' := (hb1.cell (p := ⟨d, 0, none⟩) hd).trans c0; have HR1 := hid (HR.out w1 ((hb1.block _ hlt).trans H2.out)); clear hh hb1 HT)
    | (refine wpList_copy_gen rfl _ _ 30 30 rfl 5 1 Try.underlying30 infoU8' _ _ _ _ rfl _ _ HM.out _ rfl 512 (bv R) ?hr1 ?hr2 (bv_one _) ?_; (case hr1 => exact HR1.out); (case hr2 => rw [bv_length, List.length_replicate]; omega); intro w2 hb2 hc2 hs2; have HB2 := hid hb2; have HC2 := hid hc2; clear hb2 hc2))
  go_ret2
  have hx : splice (bv (List.replicate 512 0)) 0 ((bv R).take (min 512 512 * 1)) = bv R := by
    have e : (bv R).take (min 512 512 * 1) = bv R := List.take_of_length_le (by rw [bv_length, HL.out]; omega)
    rw [e]; exact splice_all _ _ (by rw [bv_length, bv_length, HL.out, List.length_replicate])
  refine ⟨_, rfl, Nat.le_refl _, ?_, HB.out.trans (HC2.out.below (B := w.heap.size) (fun q hq => by rw [hq]; exact Nat.le_refl _) HB.out.size)⟩
  rw [← hx]; exact HB2.out

/-- a write -/
def dWritten (s : DS) (k : Nat) (b : List UInt8) : DS := { s with now := setRowAt s.now k (pad b), since := s.since ++ [(k, pad b)] }
def dWrite (n : Nat) (s : DS) (at_ : Int) (b : List UInt8) : DS × Int :=
  if s.dead then (s, 13) else if ¬ (0 ≤ at_ ∧ at_ < n) ∨ 512 < b.length then (s, 1) else
    (dStep (dWritten s at_.toNat b), if dStepGone s then 13 else 0)

def z512 : List UInt8 := List.replicate 512 0
/-- a write's cells -/
def wRow (k : Int) (b : List UInt8) : List Value := Value.int .i64 k :: bv b
def wZero : List Value := wRow 0 z512
theorem wRow_length (k : Int) (b : List UInt8) : (wRow k b).length = b.length + 1 := by simp [wRow]
theorem z512_length : z512.length = 512 := List.length_replicate
theorem not_new {g n : Nat} (h : g < n) : ¬ (fun q => q = n) g := fun h2 => by have h3 : g = n := h2; omega
theorem wRow_one (k : Int) (b : List UInt8) : ∀ u ∈ wRow k b, u.oneCell' = true := by
  intro u hu
  rcases List.mem_cons.1 hu with rfl | hu
  · rfl
  · exact bv_one b u hu
theorem sinceCells_snoc (l : List (Nat × List UInt8)) (k : Nat) (b : List UInt8) : sinceCells (l ++ [(k, b)]) = sinceCells l ++ wRow k b := by
  simp [sinceCells, wRow]
theorem pad_splice (k : Int) (l : List UInt8) (h : l.length ≤ 512) : splice (wRow k z512) 1 (bv l) = wRow k (pad l) := by
  unfold wRow pad splice z512
  simp only [List.take_succ_cons, List.take_zero, List.cons_append, List.nil_append, bv_length, Nat.add_comm 1 l.length, List.drop_succ_cons, bv_drop, bv_append, List.drop_replicate]
theorem wInfo : (Try.prog.info? 145).map (fun i => (i.zero, i.size, i.bytes)) = some (some (.agg wZero.toArray), 513, 520) := by kernel_rfl
theorem wInfo0 : (Try.prog.info? 145).map (·.zero) = some (some (.agg wZero.toArray)) := by kernel_rfl
theorem wInfo1 : (Try.prog.info? 145).map (·.size) = some 513 := by kernel_rfl
theorem wInfo2 : (Try.prog.info? 145).map (fun i => (i.zero, i.size)) = some (some (.agg wZero.toArray), 513) := by kernel_rfl
theorem sInfo1 : (Try.prog.info? 111).map (·.size) = some 512 := by kernel_rfl
theorem wBuild (k : Int) (w : World) : (Instr.build 145 #[(0, .int .i64 k)]).run Try.prog w = .ok (.agg (wRow k z512).toArray) w := by kernel_rfl

theorem dWrite_err (w : World) (d : Nat) (fp : Nat → Prop) (n : Nat) (s : DS) (at_ : Int) (v : Value) (l : List UInt8) (h : Dsk w d fp n s) (hv : Bs w v l) (hl : l.length ≤ 1000000) (hbad : s.dead = true ∨ ¬ (0 ≤ at_ ∧ at_ < n) ∨ 512 < l.length) :
    Calls Try.prog 83 #[.pointer (some ⟨d, 0, none⟩), .int .i64 at_, v] w fun e w' => e = .returned (.int .i64 (if s.dead then 13 else 1)) ∧ w = w' := by
  have HT := hid (dThere_any w d fp n s at_ h)
  obtain ⟨bn, bk, sv, h1, _⟩ := h
  obtain ⟨c0, c1, c2, c3, c4, c5, f0, f1, f2, f3, f4, f5⟩ := six_cells h1
  obtain ⟨_, p, cap, rfl, _⟩ := hv
  clear h1
  by_cases hdead : s.dead = true
  · rw [hdead] at c5
    rw [hdead]
    go_enter Try.func83, Try.ntmps83
    go_wp2_with fail
    go_ret
    exact ⟨rfl, rfl⟩
  · have hdead' : s.dead = false := by simpa using hdead
    have hb := hbad.resolve_left hdead
    rw [hdead'] at c5
    rw [hdead']
    by_cases ht : 0 ≤ at_ ∧ at_ < n
    · have hl5 : 512 < l.length := hb.resolve_left (fun hn => hn ht)
      have hdt : decide (0 ≤ at_ ∧ at_ < n) = true := by simpa using ht
      have HT2 := hid (hdt ▸ HT.out)
      clear hdead hbad hb hdt HT ht
      go_enter Try.func83, Try.ntmps83
      go_wp2_with (first | (go_at_call 57; refine HT2.out.mono ?_; rintro e1 wx ⟨rfl, rfl⟩))
      go_ret
      exact ⟨rfl, rfl⟩
    · have hdt : decide (0 ≤ at_ ∧ at_ < n) = false := by simpa using ht
      have HT2 := hid (hdt ▸ HT.out)
      clear hdead hbad hb hdt HT ht
      go_enter Try.func83, Try.ntmps83
      go_wp2_with (first | (go_at_call 57; refine HT2.out.mono ?_; rintro e1 wx ⟨rfl, rfl⟩))
      go_ret
      exact ⟨rfl, rfl⟩

set_option maxRecDepth 100000 in
set_option maxHeartbeats 1600000 in
theorem dWrite_ok (w : World) (d : Nat) (fp : Nat → Prop) (n : Nat) (s : DS) (k : Nat) (v : Value) (l : List UInt8) (h : Dsk w d fp n s) (hv : Bs w v l) (hdead : s.dead = false) (hk : k < n) (hl : l.length ≤ 512) (ho : s.ops ≤ 1000000) :
    Calls Try.prog 83 #[.pointer (some ⟨d, 0, none⟩), .int .i64 k, v] w fun e w' => e = .returned (.int .i64 (if dStepGone s then 13 else 0)) ∧ DskTo w d fp n (dStep (dWritten s k l)) w' := by
  have hdt : decide (0 ≤ (k : Int) ∧ (k : Int) < n) = true := by simp; omega
  have HT := hid (hdt ▸ dThere_any w d fp n s k h)
  obtain ⟨bn, bk, sv, h1, h2, h3, h4, h5, h6, h7, h8, h9, h10, h11, h12, h13⟩ := h
  obtain ⟨c0, c1, c2, c3, c4, c5, f0, f1, f2, f3, f4, f5⟩ := six_cells h1
  rw [hdead] at c5
  have HV := hid hv
  obtain ⟨_, p, cap, rfl, _⟩ := hv
  have hd := h1.lt
  have hn := h13.n2
  have hl' : ¬ (512 : Int) < (l.length : Int) := by omega
  have hd5 : decide ((512 : Int) < (l.length : Int)) = false := by simpa using hl'
  have H1 := hid h1
  have H2 := hid h2
  have H3 := hid h3
  have H4 := hid h4
  have H5 := hid (And.intro h5 (And.intro h6 (And.intro h7 h8)))
  have H9 := hid (And.intro h9 (And.intro h10 (And.intro h11 h12)))
  have H13 := hid h13
  clear h1 h2 h3 h4 h5 h6 h7 h8 h9 h10 h11 h12 h13 hdt
  go_enter Try.func83, Try.ntmps83
  go_wp2_with (first
    | (go_at_call 57; refine HT.out.mono ?_; rintro e1 wx ⟨rfl, rfl⟩; clear HT)
    | (refine wpList_build_one rfl 145 0 _ rfl (.int .i64 (k : Int)) _ rfl (wBuild _ _) ?_)
    | (refine wpList_alloc_z rfl 145 rfl _ wInfo0 ?_; intro w1 hw1 hb1 hl1; have W1 := hid hw1; have B1 := hid hb1; clear hw1 hb1)
    | (refine wpList_store_arr rfl 145 _ _ rfl 513 wInfo1 _ 0 145 _ (wRow k z512) rfl rfl W1.out ?hs1 ?hs2 (wRow_one _ _) ?_; (case hs1 => rw [wRow_length, z512_length]); (case hs2 => rw [wZero, wRow_length, z512_length]; omega); intro w2 hw2 hc2 hs2; rw [splice_all _ _ (by rw [wZero, wRow_length, wRow_length])] at hw2; have W2 := hid hw2; have C2 := hid (Chg.trans (Chg.new B1.out (fun q => q = w.heap.size)) hc2 (fun _ _ h => h)); have L2 := hid hs2; clear hw2 hc2 hs2 W1)
    | (refine wpList_copy_gen rfl _ _ 30 30 rfl 5 1 Try.underlying30 infoU8' _ 1 _ _ rfl _ _ W2.out _ rfl l.length (bv l) ?hr1 ?hr2 (bv_one _) ?_; (case hr1 => exact Rd.chg HV.out C2.out (fun _ g _ h1 => not_new h1)); (case hr2 => rw [wRow_length, z512_length]; omega); intro w3 hb3 hc3 hs3; have e3 : (bv l).take (min l.length 512 * 1) = bv l := List.take_of_length_le (by rw [bv_length]; omega); rw [e3, pad_splice _ _ hl] at hb3; have W3 := hid hb3; have C3 := hid (Chg.trans C2.out hc3 (fun _ _ h => h)); have L3 := hid (hs3.trans L2.out); clear hb3 hc3 hs3 e3 W2 C2 L2 HV B1))
  have hD3 := H1.out.chg C3.out (not_new hd)
  have hN3 := H2.out.chg C3.out (not_new H2.out.lt)
  obtain ⟨d0, d1, d2, d3, d4, d5, g0, g1, g2, g3, g4, g5⟩ := six_cells hD3
  have HD3 := hid hD3
  have HN3 := hid hN3
  clear hD3 hN3 c0 c1 c2 c3 c4 c5 f0 f1 f2 f3 f4 f5
  refine wp_region_still_tail 8 (by kernel_rfl) (by kernel_rfl) ?_
  simp only [List.take_succ_cons, List.take_zero, List.drop_succ_cons, List.drop_zero]
  repeat still_step
  refine wpStill_load_arr rfl 111 _ rfl _ Try.underlying111 rfl 512 sInfo1 w.heap.size 1 145 _ rfl W3.out (by rw [wRow_length, pad_length hl]; omega) (bv (pad l)) (by rw [wRow, List.drop_succ_cons, List.drop_zero]; exact List.take_of_length_le (by rw [bv_length, pad_length hl]; omega)) ?_
  repeat still_step
  refine wpStill_nil ?_
  have hk512 : (k + 1) * 512 ≤ n * 512 := Nat.mul_le_mul_right _ hk
  refine wpList_store_arr rfl 111 _ _ rfl 512 sInfo1 bn (k * 512) 111 (bv s.now) (bv (pad l)) rfl rfl HN3.out (by rw [bv_length, pad_length hl]) (by rw [bv_length, H13.out.now]; omega) (bv_one _) ?_
  intro w4 hw4 hc4 hs4
  rw [bv_splice] at hw4
  have C4 : Hid (Chg (fun q => q = w.heap.size ∨ q = bn) w w4) := (C3.out.mono (fq := fun q => q = w.heap.size ∨ q = bn) (fun _ _ h => .inl h)).trans (show Chg (fun q => q = bn) w3 w4 from ⟨hc4.os, hc4.tape, hc4.output, hc4.size, hc4.block⟩) (fun _ _ h => .inr h)
  have W4 := hid hw4
  have L4 := hid (hs4.trans L3.out)
  have HW4 := hid (W3.out.chg (show Chg (fun q => q = bn) w3 w4 from ⟨hc4.os, hc4.tape, hc4.output, hc4.size, hc4.block⟩) (fun h => by have h2 : w.heap.size = bn := h; have := H2.out.lt; omega))
  have hD4 := H1.out.chg C4.out (fun h => by rcases h with h | h; exact not_new hd h; exact H5.out.1 h)
  have hS4 := own_chg H4.out C4.out (fun g hg h => by
    have h8 := H5.out.2.2.2 g hg
    rcases h with h | h
    · exact not_new (H9.out.2.2.2 g h8.2.2.2) h
    · exact h8.2.1 h)
  obtain ⟨d0, d1, d2, d3, d4, d5, g0, g1, g2, g3, g4, g5⟩ := six_cells hD4
  have HD4 := hid hD4
  have HS4 := hid hS4
  clear hw4 hc4 hs4 hD4 hS4 W3 C3 L3 HD3 HN3
  go_wp2_with fail
  refine wp_region_plan (fun w' => Blk w' d [.slice (some ⟨bn, 0, none⟩) n n, .slice (some ⟨bk, 0, none⟩) n n, sv, .int .i64 s.stop, .int .i64 s.ops, .bool s.dead] 91 ∧ Blk w' w.heap.size (wRow k (pad l)) 145)
    (fun j => [0, 1, 2, 3, 4, 5, 8, 9].contains j) (fun j => j == 10) (.of [0, 1, 2, 3, 4, 5, 6, 7, 8, 9, 10]) (by kernel_rfl) (by kernel_rfl) rfl (by kernel_rfl) (by kernel_rfl) ?_ ?_
  · exact ⟨HD4.out.chg (Chg.drewN (fp := fun _ => False) _ 1) (fun h => h), HW4.out.chg (Chg.drewN (fp := fun _ => False) _ 1) (fun h => h)⟩
  refine wpPlan_val (.pointer (some ⟨d, 0, none⟩)) rfl rfl rfl (fun w' hS => by go_simp) (fun K hK => ?_)
  go_simp
  refine hK _ ?_
  clear hK K
  refine wpPlan_val (.pointer (some ⟨d, 0, none⟩)) rfl rfl rfl (fun w' hS => by go_simp) (fun K hK => ?_)
  go_simp
  refine hK _ ?_
  clear hK K
  refine wpPlan_val (.pointer (some ⟨d, 0, none⟩)) rfl rfl rfl (fun w' hS => by go_simp) (fun K hK => ?_)
  go_simp
  refine hK _ ?_
  clear hK K
  refine wpPlan_val (.pointer (some ⟨d, 2, none⟩)) rfl rfl rfl (fun w' hS => by go_simp) (fun K hK => ?_)
  go_simp
  refine hK _ ?_
  clear hK K
  refine wpPlan_val (sv) rfl rfl rfl (fun w' hS => by obtain ⟨c0, c1, c2, c3, c4, c5, f0, f1, f2, f3, f4, f5⟩ := six_cells hS.1; go_simp) (fun K hK => ?_)
  go_simp
  refine hK _ ?_
  clear hK K
  refine wpPlan_val (.agg (wRow k (pad l)).toArray) rfl rfl rfl (fun w' hS => by exact exec_load_arr 145 _ rfl _ Try.underlying145 rfl 513 wInfo1 _ 0 145 _ rfl hS.2 (by rw [wRow_length, pad_length hl]; omega) (wRow k (pad l)) (by rw [List.drop_zero]; exact List.take_of_length_le (by rw [wRow_length, pad_length hl]; omega))) (fun K hK => ?_)
  go_simp
  refine hK _ ?_
  clear hK K
  refine wpPlan_list rfl rfl rfl (fun K hK => ?_)
  refine wpList_buildSlice_one rfl 89 _ rfl 145 513 _ Try.underlying89 wInfo2 (by omega) (by omega) (wRow k (pad l)) (by rw [wRow_length, pad_length hl]) rfl ?_
  intro w5 hb5 hlo5 hs5
  have C5 : Hid (Below w4.heap.size w4 w5) := hid ⟨hlo5.os, hlo5.tape, hlo5.output, hlo5.size, hlo5.block⟩
  have L5 := hid hs5
  have B5 := hid hb5
  clear hb5 hlo5 hs5
  simp only [wpList]
  refine hK _ _ (fun _ => ⟨(HD4.out).chg (Chg.new C5.out (fun _ => False)) (fun h => h), HW4.out.chg (Chg.new C5.out (fun _ => False)) (fun h => h)⟩) ?_
  clear hK K
  refine wpPlan_list rfl rfl rfl (fun K hK => ?_)
  have hS5 := own_chg HS4.out (Chg.new C5.out (fun _ => False)) (fun g hg h => h)
  refine wpList_append_rd rfl _ _ 89 rfl 0 145 _ 513 520 Try.underlying89 wInfo (by show wZero.toArray.size = 513; rw [List.size_toArray, wZero, wRow_length, z512_length]) (by omega) sv s.since.length (sinceCells s.since) rfl hS5 (.slice (some ⟨w4.heap.size, 0, none⟩) 1 1) 1 (wRow k (pad l)) rfl ?hr1 (wRow_one _ _) ?hr2 ?hr3 (Nat.zero_le _) ?_
  case hr1 =>
    have h1 := Rd.blk (off := 0) (n := 1) (c := 1) (size := 513) B5.out (Nat.le_refl _) (by simp only [maxLen]; omega) (by rw [wRow_length, pad_length hl]; omega)
    rw [List.drop_zero, List.take_of_length_le (by rw [wRow_length, pad_length hl]; omega)] at h1
    exact h1
  case hr2 => have := H13.out.many; have := H13.out.ops1; simp only [maxLen]; omega
  case hr3 => have := H13.out.many; have := H13.out.ops1; omega
  intro p' c' w6 hw6 hg6 ho6
  have C6 := hid (Chg.grown hg6)
  have D5 := hid (HD4.out.chg (Chg.new C5.out (fun _ => False)) (fun h => h))
  have hdg : ∀ g, sv.ownBlock = some g → ¬ g = d := fun g hg => (H5.out.2.2.2 g hg).1
  have D6 := hid (D5.out.chg C6.out (fun h => hdg d h rfl))
  have K6 := hid (HW4.out.chg (Chg.new C5.out (fun _ => False)) (fun h => h))
  have hfpn : ∀ g, sv.ownBlock = some g → g < w.heap.size := fun g hg => H9.out.2.2.2 g (H5.out.2.2.2 g hg).2.2.2
  have K6' := hid (K6.out.chg C6.out (fun h => Nat.lt_irrefl _ (hfpn _ h)))
  have W6 := hid hw6
  have O6 := hid ho6
  have F6 := hid (And.intro hdg hfpn)
  clear hw6 hg6 ho6 hS5 hdg hfpn
  simp only [wpList]
  refine hK _ _ (fun _ => ⟨D6.out, K6'.out⟩) ?_
  clear hK K
  refine wpPlan_val (.pointer (some ⟨d, 0, none⟩)) rfl rfl rfl (fun w' hS => by go_simp) (fun K hK => ?_)
  go_simp
  refine hK _ ?_
  clear hK K
  refine wpPlan_val (.pointer (some ⟨d, 2, none⟩)) rfl rfl rfl (fun w' hS => by go_simp) (fun K hK => ?_)
  go_simp
  refine hK _ ?_
  clear hK K
  have hD6 := D6.out
  obtain ⟨d0, d1, d2, d3, d4, d5, g0, g1, g2, g3, g4, g5⟩ := six_cells hD6
  clear hD6
  refine wpPlan_list rfl rfl rfl (fun K hK => ?_)
  refine wpList_step (fun K2 hK2 => ?_)
  go_simp
  refine hK2 _ _ ?_
  clear hK2 K2
  simp only [wpList]
  refine hK _ _ (fun h => by cases h) ?_
  clear hK K
  refine wpPlan_nil ?_
  simp only [Qn]
  have hD7 := D6.out.set 2 (.slice p' (s.since.length + 1) c')
  simp only [List.set] at hD7
  have C46 : Hid (Chg (fun q => sv.ownBlock = some q) w4 w6) := hid ((Chg.new C5.out _).trans C6.out (fun _ _ h => h))
  have C7 := hid (Chg.setCell (fp := fun q => q = d) w6 (a := ⟨d, 2, none⟩) rfl (.slice p' (s.since.length + 1) c'))
  have CW : Hid (Chg fp w (w6.setCell ⟨d, 2, none⟩ (.slice p' (s.since.length + 1) c'))) := hid
    (((C4.out.mono (fq := fp) (fun q hq h => by rcases h with h | h; exact (not_new hq h).elim; rw [h]; exact H9.out.2.1)).trans C46.out
      (fun q hq h => (H5.out.2.2.2 q h).2.2.2)).trans C7.out (fun q hq h => by have h2 : q = d := h; rw [h2]; exact H9.out.1))
  have W7 := hid ((W6.out).1)
  have hW7 := own_chg W6.out C7.out (fun g hg h => by
    have h2 : g = d := h
    rcases O6.out with h3 | h3
    · exact F6.out.1 g (h3 ▸ hg) h2
    · have h4 : w5.heap.size = g := Option.some.inj (h3.symm.trans hg)
      have h5 : w4.heap.size < w5.heap.size := L5.out
      have := C4.out.size
      omega)
  have OP : Hid (∀ g, Value.ownBlock (.slice p' (s.since.length + 1) c') = some g → g ≠ d ∧ g ≠ bn ∧ g ≠ bk ∧ (fp g ∨ (w.heap.size ≤ g ∧ g < w6.heap.size))) := hid (fun g hg => by
    rcases O6.out with h3 | h3
    · have h8 := H5.out.2.2.2 g (h3 ▸ hg)
      exact ⟨h8.1, h8.2.1, h8.2.2.1, .inl h8.2.2.2⟩
    · have h4 : w5.heap.size = g := Option.some.inj (h3.symm.trans hg)
      have h5 : w4.heap.size < w5.heap.size := L5.out
      have := C4.out.size
      have := H2.out.lt
      have := H3.out.lt
      have h6 : g < w6.heap.size := by
        rcases W6.out.2 with h7 | ⟨g', cap', cur', h7, _, h9, _⟩
        · omega
        · have h10 : g = g' := by rw [h7] at hg; exact (Option.some.inj hg).symm
          rw [h10]; exact (Array.getElem?_eq_some_iff.1 h9).1
      exact ⟨by omega, by omega, by omega, .inr ⟨by omega, h6⟩⟩)
  have hN7 := (W4.out.chg C46.out (fun h => (H5.out.2.2.2 bn h).2.1 rfl)).chg C7.out (fun h => H5.out.1 h.symm)
  have hK7 := ((H3.out.chg C4.out (fun h => by rcases h with h | h; exact not_new H3.out.lt h; exact H5.out.2.2.1 h.symm)).chg C46.out (fun h => (H5.out.2.2.2 bk h).2.2.1 rfl)).chg C7.out (fun h => H5.out.2.1 h.symm)
  have HW7 := hid hW7
  have HN7 := hid hN7
  have HK7 := hid hK7
  have HD7 := hid hD7
  have FIN : Hid (∀ w8, Blk w8 d [.slice (some ⟨bn, 0, none⟩) n n, .slice (some ⟨bk, 0, none⟩) n n, .slice p' (s.since.length + 1) c', .int .i64 (dStep (dWritten s k l)).stop, .int .i64 (dStep (dWritten s k l)).ops, .bool (dStep (dWritten s k l)).dead] 91 →
      Chg (fun q => q = d) (w6.setCell ⟨d, 2, none⟩ (.slice p' (s.since.length + 1) c')) w8 → DskTo w d fp n (dStep (dWritten s k l)) w8) := hid (fun w8 hb hc => by
    have hz : w6.heap.size ≤ w8.heap.size := by have := hc.size; simp [World.setCell] at this; exact this
    have hN8 := HN7.out.chg hc (fun h => H5.out.1 h.symm)
    have hK8 := HK7.out.chg hc (fun h => H5.out.2.1 h.symm)
    have hW8 := own_chg HW7.out hc (fun g hg h => (OP.out g hg).1 h)
    have hWz := CW.out.size
    have hWz2 := hc.size
    rw [← sinceCells_snoc] at hW8
    have ok := H13.out
    refine ⟨fun q => fp q ∨ (w.heap.size ≤ q ∧ q < w8.heap.size), ⟨bn, bk, _, hb, ?_, ?_, ?_, H5.out.1, H5.out.2.1, H5.out.2.2.1, fun g hg => ?_, .inl H9.out.1, .inl H9.out.2.1, .inl H9.out.2.2.1, fun q hq => ?_, ?_⟩, CW.out.trans hc (fun q hq h => ?_), fun q hq => hq.imp id (fun h => h.1)⟩
    · rw [dStep_now]; exact hN8
    · rw [dStep_kept]; exact hK8
    · rw [dStep_since]
      have e1 : (dWritten s k l).since = s.since ++ [(k, pad l)] := rfl
      rw [e1, List.length_append]
      exact hW8
    · have h1 := OP.out g hg
      exact ⟨h1.1, h1.2.1, h1.2.2.1, h1.2.2.2.imp id (fun h => ⟨h.1, Nat.lt_of_lt_of_le h.2 hz⟩)⟩
    · rcases hq with h | h
      · have := H9.out.2.2.2 q h; omega
      · exact h.2
    · have hst := dStep_stop (dWritten s k l) ok.stop0
      have e2 : (dWritten s k l).stop = s.stop := rfl
      have e3 : (dWritten s k l).ops = s.ops := rfl
      have := ok.stop1
      have := ok.many
      refine ⟨ok.n1, ok.n2, ?_, ?_, ?_, ?_, hst.1, by omega, ?_⟩
      · rw [dStep_now]; exact (splice_length _ _ _ (by rw [pad_length hl, ok.now]; omega)).trans ok.now
      · rw [dStep_kept]; exact ok.kept
      · rw [dStep_since]
        intro p hp
        rcases List.mem_append.1 hp with h | h
        · exact ok.since p h
        · obtain rfl := List.mem_singleton.1 h
          exact ⟨hk, pad_length hl⟩
      · rw [dStep_since, dStep_ops]
        have e1 : (dWritten s k l).since = s.since ++ [(k, pad l)] := rfl
        rw [e1, List.length_append, List.length_singleton, e3]
        omega
      · rw [dStep_ops, e3]; omega
    · have h2 : q = d := h
      rw [h2]; exact H9.out.1)
  clear hW7 hN7 hK7 hD7 d0 d1 d2 d3 d4 d5 g0 g1 g2 g3 g4 g5 W7 D5 D6 K6 K6' W6 O6 F6 C46 HW7 HN7 HK7 C7 CW OP
  have HO : Hid (0 ≤ s.ops) := hid (by have := H13.out.many; omega)
  cases hgo : dStepGone s with
  | true =>
    go_wp2_with (first
      | (go_at_call 84; refine (dStep_raw _ d _ _ _ (dWritten s k l) HD7.out H13.out.stop0 H13.out.stop1 HO.out ho).mono ?_; rintro e8 w8 ⟨rfl, h8, h9, h10⟩; (have H8 := hid h8); (have C8 := hid h9); clear h8 h9 h10; (have hgo' : dStepGone (dWritten s k l) = true := hgo); rw [hgo']; clear hgo'))
    all_goals (go_ret; exact ⟨rfl, FIN.out _ H8.out C8.out⟩)
  | false =>
    go_wp2_with (first
      | (go_at_call 84; refine (dStep_raw _ d _ _ _ (dWritten s k l) HD7.out H13.out.stop0 H13.out.stop1 HO.out ho).mono ?_; rintro e8 w8 ⟨rfl, h8, h9, h10⟩; (have H8 := hid h8); (have C8 := hid h9); clear h8 h9 h10; (have hgo' : dStepGone (dWritten s k l) = false := hgo); rw [hgo']; clear hgo'))
    all_goals (go_ret; exact ⟨rfl, FIN.out _ H8.out C8.out⟩)
end Go.Proofs.Ytdilkgcoecipjaa

namespace Go.Proofs.Ytdilkgcoecipjaa
open Go.RowKit
set_option linter.unusedVariables false

theorem dStep_ok {n : Nat} {s : DS} (h : DOk n s) (ho : s.ops ≤ 1000000) : DOk n (dStep s) := by
  have hst := dStep_stop s h.stop0
  have := h.stop1
  have := h.many
  refine ⟨h.n1, h.n2, ?_, ?_, ?_, ?_, hst.1, by omega, ?_⟩
  · rw [dStep_now]; exact h.now
  · rw [dStep_kept]; exact h.kept
  · rw [dStep_since]; exact h.since
  · rw [dStep_since, dStep_ops]; omega
  · rw [dStep_ops]; omega

theorem dStep_any (w : World) (d : Nat) (fp : Nat → Prop) (n : Nat) (s : DS) (h : Dsk w d fp n s) (ho : s.ops ≤ 1000000) :
    Calls Try.prog 84 #[.pointer (some ⟨d, 0, none⟩)] w fun e w' => e = .returned (.bool (dStepGone s)) ∧ Dsk w' d fp n (dStep s) ∧ Chg fp w w' ∧ w'.heap.size = w.heap.size := by
  obtain ⟨bn, bk, sv, h1, h2, h3, h4, h5, h6, h7, h8, h9, h10, h11, h12, h13⟩ := h
  refine (dStep_raw w d _ _ _ s h1 h13.stop0 h13.stop1 (by have := h13.many; omega) ho).mono ?_
  rintro e w' ⟨rfl, g1, g2, g3⟩
  obtain ⟨r1, r2⟩ := dsk_head (s' := dStep s) h2 h3 h4 h5 h6 h7 h8 h9 h10 h11 h12 g1 g2 (dStep_now s) (dStep_kept s) (dStep_since s) (dStep_ok h13 ho)
  exact ⟨rfl, r1, r2, g3⟩

/-- a sync -/
def dSynced (s : DS) : DS := { s with kept := s.now, since := [] }
def dSync (s : DS) : DS × Int := if s.dead then (s, 13) else if dStepGone s then (dStep s, 13) else (dSynced (dStep s), 0)

set_option maxRecDepth 100000 in
theorem dSync_any (w : World) (d : Nat) (fp : Nat → Prop) (n : Nat) (s : DS) (h : Dsk w d fp n s) (ho : s.ops ≤ 1000000) :
    Calls Try.prog 72 #[.pointer (some ⟨d, 0, none⟩)] w fun e w' => e = .returned (.int .i64 (dSync s).2) ∧ Dsk w' d fp n (dSync s).1 ∧ Chg fp w w' ∧ w'.heap.size = w.heap.size := by
  have HS := hid (dStep_any w d fp n s h ho)
  have H := hid h
  obtain ⟨bn, bk, sv, h1, _⟩ := h
  obtain ⟨c0, c1, c2, c3, c4, c5, f0, f1, f2, f3, f4, f5⟩ := six_cells h1
  clear h1
  by_cases hdead : s.dead = true
  · rw [hdead] at c5
    have e1 : dSync s = (s, 13) := if_pos hdead
    rw [e1]
    clear hdead e1
    go_enter Try.func72, Try.ntmps72
    go_wp2_with fail
    go_ret
    exact ⟨rfl, H.out, Chg.refl _ _, rfl⟩
  have hdead' : s.dead = false := by simpa using hdead
  rw [hdead'] at c5
  cases hgo : dStepGone s with
  | true =>
    have e1 : dSync s = (dStep s, 13) := by unfold dSync; rw [if_neg hdead, if_pos hgo]
    rw [e1]
    clear hdead e1 hdead'
    go_enter Try.func72, Try.ntmps72
    go_wp2_with (first
      | (go_at_call 84; refine HS.out.mono ?_; rintro e8 w8 ⟨rfl, h8, h9, h10⟩; (have H8 := hid h8); (have C8 := hid h9); (have L8 := hid h10); clear h8 h9 h10; rw [hgo]))
    all_goals (go_ret; exact ⟨rfl, H8.out, C8.out, L8.out⟩)
  | false =>
    have e1 : dSync s = (dSynced (dStep s), 0) := by unfold dSync; rw [if_neg hdead, if_neg (by rw [hgo]; simp)]
    rw [e1]
    clear hdead e1 hdead'
    go_enter Try.func72, Try.ntmps72
    go_wp2_with (first
      | (go_at_call 84; refine HS.out.mono ?_; rintro e8 w8 ⟨rfl, h8, h9, h10⟩; (have H8 := hid h8); (have C8 := hid h9); (have L8 := hid h10); clear h8 h9 h10; rw [hgo]))
    obtain ⟨bn', bk', sv', h1, h2, h3, h4, h5, h6, h7, h8, h9, h10, h11, h12, h13⟩ := H8.out
    obtain ⟨d0, d1, d2, d3, d4, d5, g0, g1, g2, g3, g4, g5⟩ := six_cells h1
    clear c0 c1 c2 c3 c4 c5 f0 f1 f2 f3 f4 f5
    have G1 := hid h1
    have G2 := hid h2
    have G3 := hid h3
    have G5 := hid (And.intro h5 (And.intro h6 h7))
    have G9 := hid (And.intro h9 (And.intro h10 (And.intro h11 h12)))
    have ok := hid h13
    have hn := h13.n2
    clear h1 h2 h3 h4 h5 h6 h7 h8 h9 h10 h11 h12 h13
    refine wp_region_still_tail 8 (by kernel_rfl) (by kernel_rfl) ?_
    simp only [List.take_succ_cons, List.take_zero, List.drop_succ_cons, List.drop_zero]
    repeat still_step
    refine wpStill_nil ?_
    have hr := Rd.blk (off := 0) (n := n) (c := n) (size := 512) G2.out (Nat.le_refl _) (by simp only [maxLen]; omega) (by rw [bv_length, ok.out.now]; omega)
    rw [List.drop_zero, List.take_of_length_le (by rw [bv_length, ok.out.now]; omega)] at hr
    have HR := hid hr
    clear hr
    refine wpList_copy_gen rfl _ _ 88 88 rfl 111 512 Try.underlying88 sInfo1 bk' 0 n n rfl _ _ (G3.out.chg (Chg.drewN (fp := fun _ => False) _ 1) (fun h => h)) _ rfl n (bv (dStep s).now) ?hr1 ?hr2 (bv_one _) ?_
    case hr1 => exact HR.out.chg (Chg.drewN (fp := fun _ => False) _ 1) (fun _ _ _ _ h => h)
    case hr2 => rw [bv_length, ok.out.kept]; omega
    intro w9 hw9 hc9 hs9
    have W9 := hid hw9
    have C9 := hid hc9.drewN'
    have L9 := hid hs9
    have G1' := hid (G1.out.chg C9.out (fun h => G5.out.2.1 h))
    obtain ⟨d0, d1, d2, d3, d4, d5, g0, g1, g2, g3, g4, g5⟩ := six_cells G1'.out
    clear hw9 hc9 hs9
    go_wp2_with fail
    all_goals (
      go_ret
      have ok := ok.out
      refine ⟨rfl, ⟨bn', bk', _, G1'.out.set 2 _, ?_, ?_, World.ownsRow_nil _ _ _ _, G5.out.1, G5.out.2.1, G5.out.2.2, (fun g hg => by cases hg), G9.out.1, G9.out.2.1, G9.out.2.2.1, fun q hq => ?_, ⟨ok.n1, ok.n2, ok.now, ok.now, (fun p hp => by cases hp), ?_, ok.stop0, ok.stop1, ok.ops1⟩⟩, ?_, ?_⟩
      · exact (G2.out.chg C9.out (fun h => G5.out.2.2 h)).chg (Chg.setCell (fp := fun q => q = d) _ rfl _) (fun h => G5.out.1 h.symm)
      · have h1 := (show Blk w9 bk' _ _ from W9.out).chg (Chg.setCell (fp := fun q => q = d) w9 (a := ⟨d, 2, none⟩) rfl (Value.slice none 0 0)) (fun h => G5.out.2.1 h.symm)
        rw [List.take_of_length_le (by rw [bv_length, ok.now]; omega), splice_all _ _ (by rw [bv_length, bv_length, ok.kept, ok.now])] at h1
        exact h1
      · have := G9.out.2.2.2 q hq
        have h1 := C9.out.size
        simp [World.setCell]; omega
      · have := ok.many
        show (0 : Int) ≤ (dStep s).ops
        omega
      · refine (C8.out.trans C9.out (fun q hq h => ?_)).trans (Chg.setCell (fp := fun q => q = d) _ rfl _) (fun q hq h => ?_)
        · have h2 : q = bk' := h
          rw [h2]; exact G9.out.2.2.1
        · have h2 : q = d := h
          rw [h2]; exact G9.out.1
      · have h1 : w9.heap.size = w8.heap.size := L9.out
        have h2 := L8.out
        simp [World.setCell]; omega)

/-- which of the writes stay -/
def dKept : List Bool → List (Nat × List UInt8) → List UInt8 → List UInt8
  | b :: bs, p :: ps, F => dKept bs ps (if b then setRowAt F p.1 p.2 else F)
  | _, _, F => F
theorem dKept_nil1 (ps : List (Nat × List UInt8)) (F : List UInt8) : dKept [] ps F = F := rfl
theorem dKept_nil2 (bs : List Bool) (F : List UInt8) : dKept bs [] F = F := by cases bs <;> rfl
theorem dKept_step {bs : List Bool} {ps : List (Nat × List UInt8)} {F : List UInt8} {i : Nat} {b : Bool} {p : Nat × List UInt8} (h1 : bs[i]? = some b) (h2 : ps[i]? = some p) :
    dKept (bs.drop i) (ps.drop i) F = dKept (bs.drop (i + 1)) (ps.drop (i + 1)) (if b then setRowAt F p.1 p.2 else F) := by
  obtain ⟨l1, e1⟩ := List.getElem?_eq_some_iff.1 h1
  obtain ⟨l2, e2⟩ := List.getElem?_eq_some_iff.1 h2
  rw [List.drop_eq_getElem_cons l1, List.drop_eq_getElem_cons l2, e1, e2]
  rfl
theorem dKept_end {bs : List Bool} {ps : List (Nat × List UInt8)} {F : List UInt8} {i : Nat} (h : bs.length ≤ i ∨ ps.length ≤ i) : dKept (bs.drop i) (ps.drop i) F = F := by
  rcases h with h | h
  · rw [List.drop_eq_nil_of_le h]; rfl
  · rw [List.drop_eq_nil_of_le h, dKept_nil2]

def dCrash (s : DS) (keep : List Bool) : DS := { now := dKept keep s.since s.kept, kept := dKept keep s.since s.kept, since := [], stop := 0, ops := s.ops, dead := false }

theorem since_row (l : List (Nat × List UInt8)) (hl : ∀ p ∈ l, p.2.length = 512) (i : Nat) (p : Nat × List UInt8) (h : l[i]? = some p) : ((sinceCells l).drop (i * 513)).take 513 = wRow p.1 p.2 := by
  induction l generalizing i with
  | nil => simp at h
  | cons q qs ih =>
    have hq : q.2.length = 512 := hl q (by simp)
    have e : sinceCells (q :: qs) = wRow q.1 q.2 ++ sinceCells qs := by simp [sinceCells, wRow]
    rw [e]
    cases i with
    | zero =>
      simp only [List.getElem?_cons_zero, Option.some.injEq] at h
      subst h
      rw [Nat.zero_mul, List.drop_zero, List.take_left' (by rw [wRow_length, hq])]
    | succ i =>
      rw [List.getElem?_cons_succ] at h
      have e2 : (i + 1) * 513 = 513 + i * 513 := by omega
      rw [e2, ← List.drop_drop, List.drop_left' (by rw [wRow_length, hq])]
      exact ih (fun p hp => hl p (by simp [hp])) i h
end Go.Proofs.Ytdilkgcoecipjaa

namespace Go.Proofs.Ytdilkgcoecipjaa
open Go.RowKit
set_option linter.unusedVariables false

/-- where the loop of Crash is -/
def CrashAt (w : World) (d bn bk : Nat) (fp : Nat → Prop) (n : Nat) (s : DS) (sv kv : Value) (keep : List Bool) (i : Nat) (F : List UInt8) (wr : World) : Prop :=
  i ≤ keep.length ∧ i ≤ s.since.length ∧ F.length = n * 512 ∧ dKept (keep.drop i) (s.since.drop i) F = dKept keep s.since s.kept ∧ Chg fp w wr ∧
  Blk wr d [.slice (some ⟨bn, 0, none⟩) n n, .slice (some ⟨bk, 0, none⟩) n n, sv, .int .i64 s.stop, .int .i64 s.ops, .bool s.dead] 91 ∧ Blk wr bn (bv s.now) 111 ∧
  Blk wr bk (bv F) 111 ∧ wr.ownsRow 0 145 513 sv s.since.length (sinceCells s.since) ∧ Rd wr 1 kv keep.length (keep.map Value.bool)

theorem crash_step {w wr w3 : World} {d bn bk : Nat} {fp : Nat → Prop} {n : Nat} {s : DS} {sv kv : Value} {keep : List Bool} {i : Nat} {F F' : List UInt8} {b : Bool} {p : Nat × List UInt8}
    (h : CrashAt w d bn bk fp n s sv kv keep i F wr) (hc : Chg (fun q => q = wr.heap.size ∨ q = bk) wr w3) (hb : Blk w3 bk (bv F') 111) (hF : F' = if b then setRowAt F p.1 p.2 else F) (hk : keep[i]? = some b) (hp : s.since[i]? = some p)
    (ok : DOk n s) (g5 : d ≠ bn ∧ d ≠ bk ∧ bn ≠ bk) (hfp : fp bk) (g8 : ∀ g, sv.ownBlock = some g → g ≠ d ∧ g ≠ bn ∧ g ≠ bk ∧ fp g) (hkn : 0 < keep.length → ∀ g, kv.ownBlock = some g → ¬ fp g) : CrashAt w d bn bk fp n s sv kv keep (i + 1) F' w3 := by
  obtain ⟨i1, i2, i3, i4, i5, h1, h2, h3, h4, hkr⟩ := h
  have l1 := (List.getElem?_eq_some_iff.1 hk).1
  have l2 := (List.getElem?_eq_some_iff.1 hp).1
  have hs := ok.since p (List.mem_of_getElem? hp)
  have out : ∀ g, g < wr.heap.size → g ≠ bk → ¬ (fun q => q = wr.heap.size ∨ q = bk) g := fun g hg hne h => by rcases h with h | h; exact not_new hg h; exact hne h
  refine ⟨l1, l2, ?_, ?_, i5.trans hc (fun q hq h => by rcases h with h | h; (have := i5.size; omega); rw [h]; exact hfp), h1.chg hc (out _ h1.lt g5.2.1), h2.chg hc (out _ h2.lt g5.2.2), hb, ?_, ?_⟩
  · rw [hF]
    split
    · unfold setRowAt
      have : (p.1 + 1) * 512 ≤ n * 512 := Nat.mul_le_mul_right _ hs.1
      rw [splice_length _ _ _ (by rw [hs.2, i3]; omega)]; exact i3
    · exact i3
  · rw [← i4, dKept_step hk hp, hF]
  · refine own_chg h4 hc (fun g hg => ?_)
    rcases h4.2 with ⟨q1, q2⟩ | ⟨g', cap, cur, q1, q2, q3, _⟩
    · rw [q1] at hg; cases hg
    · have e : g = g' := by rw [q1] at hg; exact (Option.some.inj hg).symm
      exact out g (by rw [e]; exact (Array.getElem?_eq_some_iff.1 q3).1) (g8 g hg).2.2.1
  · exact hkr.chg hc (fun hpos g hg hlt => out g hlt (fun e => hkn hpos g hg (by rw [e]; exact hfp)))

theorem wZero_length : wZero.length = 513 := by rw [wZero, wRow_length, z512_length]
theorem CellTo {w w' : World} {fp : Nat → Prop} {b off : Nat} (h : Chg fp w w') (hn : ¬ fp b) (hl : b < w.heap.size := by assumption) : w'.cell? ⟨b, off, none⟩ = w.cell? ⟨b, off, none⟩ :=
  World.cell?_of_block (w := w) (a := ⟨b, off, none⟩) (h.block b hl hn)

end Go.Proofs.Ytdilkgcoecipjaa

namespace Go.Proofs.Ytdilkgcoecipjaa
open Go.RowKit
set_option linter.unusedVariables false

theorem made_rep (m k : Nat) (v : Value) (hm : 0 < m) : madeCells (List.replicate m v).toArray k = (List.replicate k v).toArray := by
  apply Array.ext
  · simp [size_madeCells]
  · intro i h1 h2
    have hm : i % m < m := Nat.mod_lt _ hm
    simp only [madeCells, Array.getElem_map, Array.getElem_range, List.size_toArray, List.length_replicate]
    rw [getElem!_pos _ _ (by simp; exact hm)]
    simp
theorem bv_rep (m : Nat) : bv (List.replicate m 0) = List.replicate m (Value.int .u8 0) := by simp [bv]
theorem made_rows (n : Nat) : madeCells (Value.agg (bv z512).toArray).cells (n * 512) = (bv (List.replicate (n * 512) 0)).toArray := by
  show madeCells (bv z512).toArray (n * 512) = _
  rw [show bv z512 = List.replicate 512 (Value.int .u8 0) from bv_rep 512, bv_rep, made_rep _ _ _ (by omega)]
theorem rInfo : (Try.prog.info? 111).map (fun i => (i.zero, i.size, i.bytes)) = some (some (.agg (bv z512).toArray), 512, 512) := by kernel_rfl

def dNew (n : Nat) : DS := { now := List.replicate (n * 512) 0, kept := List.replicate (n * 512) 0, since := [], stop := 0, ops := 0, dead := false }
theorem dNew_ok {n : Nat} (h1 : 1 ≤ n) (h2 : n ≤ 3000) : DOk n (dNew n) := by
  refine ⟨h1, h2, ?_, ?_, (fun p hp => by cases hp), ?_, Int.le_refl _, ?_, ?_⟩ <;> simp [dNew]

def clampN (x : Int) : Nat := (min (max x 1) 3000).toNat

theorem new_dsk {w w1 w2 : World} {n bn bk : Nat} (h1 : 1 ≤ n) (h2 : n ≤ 3000) (m1 : Blk w1 w.heap.size (bv (List.replicate (n * 512) 0)) 111) (m2 : Blk w2 w1.heap.size (bv (List.replicate (n * 512) 0)) 111)
    (k1 : Below w.heap.size w w1) (k2 : Below w1.heap.size w1 w2) (l1 : w.heap.size < w1.heap.size) (l2 : w1.heap.size < w2.heap.size) (hb : (bn = w.heap.size ∧ bk = w1.heap.size) ∨ (bn = w1.heap.size ∧ bk = w.heap.size)) :
    let w3 := w2.alloc (.cells #[.slice (some ⟨bn, 0, none⟩) n n, .slice (some ⟨bk, 0, none⟩) n n, .slice none 0 0, .int .i64 0, .int .i64 0, .bool false] 91)
    Dsk w3 w2.heap.size (fun k => w.heap.size ≤ k ∧ k < w3.heap.size) n (dNew n) ∧ Below w.heap.size w w3 := by
  intro w3
  have m1' : Blk w2 w.heap.size (bv (List.replicate (n * 512) 0)) 111 := (k2.block _ l1).trans m1
  have c3 : Chg NoFp w2 w3 := Chg.alloc _ _ _
  have s3 : w3.heap.size = w2.heap.size + 1 := by simp [w3]
  have both : ∀ b, b = w.heap.size ∨ b = w1.heap.size → Blk w3 b (bv (List.replicate (n * 512) 0)) 111 := fun b hb => by
    rcases hb with rfl | rfl
    · exact m1'.chg c3 (fun h => h)
    · exact m2.chg c3 (fun h => h)
  refine ⟨⟨bn, bk, .slice none 0 0, ?_, both bn (by omega), both bk (by omega), World.ownsRow_nil _ _ _ _, by omega, by omega, by omega, (fun g hg => by cases hg), ⟨by omega, by omega⟩, ⟨by omega, by omega⟩, ⟨by omega, by omega⟩, (fun k hk => hk.2), dNew_ok h1 h2⟩, ?_⟩
  · exact heap_alloc_new w2 _
  · exact k1.trans (Below.alloc ⟨k2.os, k2.tape, k2.output, k2.size, fun k hk => k2.block k (by omega)⟩ (by omega) _)

set_option maxRecDepth 100000 in
theorem dNew_any (w : World) (x : Int) :
    Calls Try.prog 22 #[.int .i64 x] w fun e w' => ∃ d, e = .returned (.pointer (some ⟨d, 0, none⟩)) ∧ Dsk w' d (fun k => w.heap.size ≤ k ∧ k < w'.heap.size) (clampN x) (dNew (clampN x)) ∧ Below w.heap.size w w' ∧ w.heap.size ≤ d := by
  obtain ⟨n, hn, hx, hn1, hn2⟩ : ∃ n, clampN x = n ∧ min (max x 1) 3000 = (n : Int) ∧ 1 ≤ n ∧ n ≤ 3000 := ⟨_, rfl, by unfold clampN; omega, by unfold clampN; omega, by unfold clampN; omega⟩
  rw [hn]
  clear hn
  go_enter Try.func22, Try.ntmps22
  go_wp2_with fail
  refine wp_region_plan (fun _ => True) (fun j => [0, 2].contains j) (fun _ => false) (.cons 0 (.cons 2 (.fork 1 3 (.of [3, 4, 5, 6]) (.of [1, 4, 5, 6])))) (by kernel_rfl) (by kernel_rfl) rfl (by kernel_rfl) (by kernel_rfl) trivial ?_
  refine wpPlan_val (.int .i64 n) rfl rfl rfl (fun w' hS => by go_simp) (fun K hK => ?_)
  go_simp
  refine hK _ ?_
  clear hK K
  refine wpPlan_val (.int .i64 n) rfl rfl rfl (fun w' hS => by go_simp) (fun K hK => ?_)
  go_simp
  refine hK _ ?_
  clear hK K
  refine ⟨?_, ?_⟩
  · refine effect_list rfl rfl (fun K hK => ?_)
    refine wpList_make_blk rfl _ _ 88 rfl 111 _ 512 512 Try.underlying88 rInfo _ _ _ _ n rfl rfl rfl rfl (by omega) (by simp only [maxLen]; omega) ?_
    intro w1 hh hb hl
    rw [made_rows] at hh
    have PM := hid hh
    have PB : Hid (Below w.heap.size w w1) := hid ⟨hb.os, hb.tape, hb.output, hb.size, hb.block⟩
    have PL : Hid (w.heap.size < w1.heap.size) := hid hl
    clear hh hb hl
    simp only [wpList]
    refine hK _ _ (fun _ => trivial) ?_
    clear hK K
    refine wpPlan_list rfl rfl rfl (fun K hK => ?_)
    refine wpList_make_blk rfl _ _ 88 rfl 111 _ 512 512 Try.underlying88 rInfo _ _ _ _ n rfl rfl rfl rfl (by omega) (by simp only [maxLen]; omega) ?_
    intro w2 hh hb hl
    rw [made_rows] at hh
    have RM := hid hh
    have RB : Hid (Below w1.heap.size w1 w2) := hid ⟨hb.os, hb.tape, hb.output, hb.size, hb.block⟩
    have RL : Hid (w1.heap.size < w2.heap.size) := hid hl
    clear hh hb hl
    simp only [wpList]
    refine hK _ _ (fun _ => trivial) ?_
    clear hK K
    refine wpPlan_list rfl rfl rfl (fun K hK => ?_)
    refine wpList_step (fun K2 hK2 => ?_)
    go_simp
    refine hK2 _ _ ?_
    clear hK2 K2
    simp only [wpList]
    refine hK _ _ (fun _ => trivial) ?_
    clear hK K
    refine wpPlan_list rfl rfl rfl (fun K hK => ?_)
    refine wpList_step (fun K2 hK2 => ?_)
    go_simp
    refine hK2 _ _ ?_
    clear hK2 K2
    simp only [wpList]
    refine hK _ _ (fun _ => trivial) ?_
    clear hK K
    refine wpPlan_list rfl rfl rfl (fun K hK => ?_)
    refine wpList_step (fun K2 hK2 => ?_)
    go_simp
    refine hK2 _ _ ?_
    clear hK2 K2
    simp only [wpList]
    refine hK _ _ (fun _ => trivial) ?_
    clear hK K
    refine wpPlan_nil ?_
    simp only [Qn]
    go_wp2_with fail
    go_ret
    have hd := new_dsk (bn := w.heap.size) (bk := w1.heap.size) hn1 hn2 (show Blk w1 w.heap.size _ _ from PM.out) (show Blk w2 w1.heap.size _ _ from RM.out) (show Below w.heap.size w w1 from ⟨PB.out.os, PB.out.tape, PB.out.output, PB.out.size, PB.out.block⟩) RB.out PL.out RL.out (by omega)
    exact ⟨_, rfl, hd.1, hd.2, by have h1 : w.heap.size < w1.heap.size := PL.out; have h2 : w1.heap.size < w2.heap.size := RL.out; omega⟩
  · refine effect_list rfl rfl (fun K hK => ?_)
    refine wpList_make_blk rfl _ _ 88 rfl 111 _ 512 512 Try.underlying88 rInfo _ _ _ _ n rfl rfl rfl rfl (by omega) (by simp only [maxLen]; omega) ?_
    intro w1 hh hb hl
    rw [made_rows] at hh
    have PM := hid hh
    have PB : Hid (Below w.heap.size w w1) := hid ⟨hb.os, hb.tape, hb.output, hb.size, hb.block⟩
    have PL : Hid (w.heap.size < w1.heap.size) := hid hl
    clear hh hb hl
    simp only [wpList]
    refine hK _ _ (fun _ => trivial) ?_
    clear hK K
    refine wpPlan_list rfl rfl rfl (fun K hK => ?_)
    refine wpList_make_blk rfl _ _ 88 rfl 111 _ 512 512 Try.underlying88 rInfo _ _ _ _ n rfl rfl rfl rfl (by omega) (by simp only [maxLen]; omega) ?_
    intro w2 hh hb hl
    rw [made_rows] at hh
    have RM := hid hh
    have RB : Hid (Below w1.heap.size w1 w2) := hid ⟨hb.os, hb.tape, hb.output, hb.size, hb.block⟩
    have RL : Hid (w1.heap.size < w2.heap.size) := hid hl
    clear hh hb hl
    simp only [wpList]
    refine hK _ _ (fun _ => trivial) ?_
    clear hK K
    refine wpPlan_list rfl rfl rfl (fun K hK => ?_)
    refine wpList_step (fun K2 hK2 => ?_)
    go_simp
    refine hK2 _ _ ?_
    clear hK2 K2
    simp only [wpList]
    refine hK _ _ (fun _ => trivial) ?_
    clear hK K
    refine wpPlan_list rfl rfl rfl (fun K hK => ?_)
    refine wpList_step (fun K2 hK2 => ?_)
    go_simp
    refine hK2 _ _ ?_
    clear hK2 K2
    simp only [wpList]
    refine hK _ _ (fun _ => trivial) ?_
    clear hK K
    refine wpPlan_list rfl rfl rfl (fun K hK => ?_)
    refine wpList_step (fun K2 hK2 => ?_)
    go_simp
    refine hK2 _ _ ?_
    clear hK2 K2
    simp only [wpList]
    refine hK _ _ (fun _ => trivial) ?_
    clear hK K
    refine wpPlan_nil ?_
    simp only [Qn]
    go_wp2_with fail
    go_ret
    have hd := new_dsk (bn := w1.heap.size) (bk := w.heap.size) hn1 hn2 (show Blk w1 w.heap.size _ _ from PM.out) (show Blk w2 w1.heap.size _ _ from RM.out) (show Below w.heap.size w w1 from ⟨PB.out.os, PB.out.tape, PB.out.output, PB.out.size, PB.out.block⟩) RB.out PL.out RL.out (by omega)
    exact ⟨_, rfl, hd.1, hd.2, by have h1 : w.heap.size < w1.heap.size := PL.out; have h2 : w1.heap.size < w2.heap.size := RL.out; omega⟩
end Go.Proofs.Ytdilkgcoecipjaa

namespace Go.Proofs.Ytdilkgcoecipjaa
open Go.RowKit
set_option linter.unusedVariables false

theorem row_set_same {F r : List UInt8} {n k : Nat} (hF : F.length = n * 512) (hk : k < n) (hr : r.length = 512) : row (setRowAt F k r) k = r := by
  have : (k + 1) * 512 ≤ n * 512 := Nat.mul_le_mul_right _ hk
  unfold row setRowAt splice
  have h1 : (F.take (k * 512)).length = k * 512 := by rw [List.length_take]; omega
  rw [List.drop_left' h1, List.take_left' hr]
theorem row_set_other {F r : List UInt8} {n k j : Nat} (hF : F.length = n * 512) (hk : k < n) (hr : r.length = 512) (hj : j ≠ k) : row (setRowAt F k r) j = row F j := by
  have : (k + 1) * 512 ≤ n * 512 := Nat.mul_le_mul_right _ hk
  unfold row setRowAt splice
  have h1 : (F.take (k * 512)).length = k * 512 := by rw [List.length_take]; omega
  apply List.ext_getElem?
  intro i
  rw [List.getElem?_take, List.getElem?_take]
  split
  · rw [List.getElem?_drop, List.getElem?_drop]
    rcases Nat.lt_or_ge j k with h | h
    · have h2 : j * 512 + i < k * 512 := by
        have : (j + 1) * 512 ≤ k * 512 := Nat.mul_le_mul_right _ h
        omega
      rw [List.getElem?_append_left (by omega), List.getElem?_take, if_pos h2]
    · have h3 : (k + 1) * 512 ≤ j * 512 := Nat.mul_le_mul_right _ (by omega)
      rw [List.getElem?_append_right (by omega), List.getElem?_append_right (by omega), h1, List.getElem?_drop]
      exact congrArg (fun q => F[q]?) (by omega)
  · rfl
theorem row_zero {n k : Nat} (hk : k < n) : row (List.replicate (n * 512) 0) k = z512 := by
  have : (k + 1) * 512 ≤ n * 512 := Nat.mul_le_mul_right _ hk
  unfold row z512
  rw [List.drop_replicate, List.take_replicate]
  exact congrArg (fun q => List.replicate q 0) (by omega)

theorem dStep_calm {s : DS} (h : s.stop < 1) : dStep s = { s with ops := s.ops + 1 } := if_pos h
theorem dStepGone_calm {s : DS} (h : s.stop < 1) : dStepGone s = false := if_pos h

theorem dWrite_any (w : World) (d : Nat) (fp : Nat → Prop) (n : Nat) (s : DS) (at_ : Int) (v : Value) (l : List UInt8) (h : Dsk w d fp n s) (hv : Bs w v l) (hl : l.length ≤ 1000000) (ho : s.ops ≤ 1000000) :
    Calls Try.prog 83 #[.pointer (some ⟨d, 0, none⟩), .int .i64 at_, v] w fun e w' => e = .returned (.int .i64 (dWrite n s at_ l).2) ∧ DskTo w d fp n (dWrite n s at_ l).1 w' := by
  by_cases hbad : s.dead = true ∨ ¬ (0 ≤ at_ ∧ at_ < n) ∨ 512 < l.length
  · refine (dWrite_err w d fp n s at_ v l h hv hl hbad).mono ?_
    rintro e w' ⟨rfl, rfl⟩
    have hw : dWrite n s at_ l = (s, if s.dead then 13 else 1) := by
      unfold dWrite
      by_cases hd : s.dead = true
      · rw [if_pos hd, if_pos hd]
      · rw [if_neg hd, if_neg hd, if_pos (hbad.resolve_left hd)]
    rw [hw]
    exact ⟨rfl, h.to⟩
  · have hd : s.dead = false := by cases hx : s.dead with | true => exact absurd (.inl hx) hbad | false => rfl
    have hr : ¬ (¬ (0 ≤ at_ ∧ at_ < n) ∨ 512 < l.length) := fun hx => hbad (.inr hx)
    obtain ⟨k, rfl⟩ := Int.eq_ofNat_of_zero_le (show 0 ≤ at_ by omega)
    refine (dWrite_ok w d fp n s k v l h hv hd (by omega) (by omega) ho).mono ?_
    have hw : dWrite n s k l = (dStep (dWritten s k l), if dStepGone s then 13 else 0) := by
      unfold dWrite
      rw [if_neg (by rw [hd]; simp), if_neg hr]
      rfl
    rw [hw]
    intro e w' he
    exact he

/-- a disk that lies behind a block -/
def DskIn (B : Nat) (w : World) (d n : Nat) (s : DS) : Prop := ∃ fp, Dsk w d fp n s ∧ ∀ k, fp k → B ≤ k
theorem DskTo.in {w w' : World} {d : Nat} {fp : Nat → Prop} {n : Nat} {s : DS} {B : Nat} (h : DskTo w d fp n s w') (hB : ∀ k, fp k → B ≤ k) (hs : B ≤ w.heap.size) : DskIn B w' d n s ∧ Below B w w' := by
  obtain ⟨fp', h1, h2, h3⟩ := h
  refine ⟨⟨fp', h1, fun k hk => ?_⟩, h2.below hB hs⟩
  rcases h3 k hk with h | h
  · exact hB k h
  · omega

theorem dWrite_calm {n : Nat} {s : DS} {k : Nat} {l : List UInt8} (hd : s.dead = false) (hs : s.stop < 1) (hk : k < n) (hl : l.length ≤ 512) : dWrite n s k l = (dStep (dWritten s k l), 0) := by
  unfold dWrite
  rw [if_neg (by rw [hd]; simp), if_neg (by omega), dStepGone_calm hs]
  rfl
end Go.Proofs.Ytdilkgcoecipjaa

namespace Go.Proofs.Ytdilkgcoecipjaa
open Go.RowKit
set_option linter.unusedVariables false

/-- all writes done -/
def dAll (ps : List (Nat × List UInt8)) (F : List UInt8) : List UInt8 := ps.foldl (fun F p => setRowAt F p.1 p.2) F
theorem dAll_snoc (ps : List (Nat × List UInt8)) (p : Nat × List UInt8) (F : List UInt8) : dAll (ps ++ [p]) F = setRowAt (dAll ps F) p.1 p.2 := by simp [dAll]
theorem dAll_length {n : Nat} : ∀ (ps : List (Nat × List UInt8)) (F : List UInt8), (∀ p ∈ ps, p.1 < n ∧ p.2.length = 512) → F.length = n * 512 → (dAll ps F).length = n * 512
  | [], F, _, h => h
  | p :: ps, F, hp, h => by
    have h1 := hp p (by simp)
    have h2 : (p.1 + 1) * 512 ≤ n * 512 := Nat.mul_le_mul_right _ h1.1
    refine dAll_length ps _ (fun q hq => hp q (by simp [hq])) ?_
    unfold setRowAt; rw [splice_length _ _ _ (by rw [h1.2, h]; omega)]; exact h

theorem row_set {F r : List UInt8} {n k j : Nat} (hF : F.length = n * 512) (hk : k < n) (hr : r.length = 512) : row (setRowAt F k r) j = if k = j then r else row F j := by
  split
  · rename_i h; subst h; exact row_set_same hF hk hr
  · rename_i h; exact row_set_other hF hk hr (fun e => h e.symm)
end Go.Proofs.Ytdilkgcoecipjaa

namespace Go.Proofs.Ytdilkgcoecipjaa


theorem tmod_up (a n : Int) (hn : 0 < n) : (if a.tmod n < 0 then a.tmod n + n else a.tmod n) = a % n := by
  rcases Int.lt_or_le a 0 with h | h
  · rw [Int.tmod_eq_emod]
    have h1 := Int.emod_nonneg a (show n ≠ 0 by omega)
    have h2 := Int.emod_lt_of_pos a hn
    by_cases hd : n ∣ a
    · have : a % n = 0 := Int.emod_eq_zero_of_dvd hd
      simp [hd, this]
    · have h0 : ¬ 0 ≤ a := by omega
      have habs : (n.natAbs : Int) = n := by omega
      simp only [h0, hd, or_self, if_false, habs]
      rw [if_pos (by omega)]; omega
  · have h3 := Int.tmod_eq_emod_of_nonneg (b := n) h
    have h1 := Int.emod_nonneg a (show n ≠ 0 by omega)
    split <;> omega

theorem tmod_bd (a n : Int) (hn : 0 < n) : -n ≤ a.tmod n ∧ a.tmod n < n := by
  have h1 := Int.emod_nonneg a (show n ≠ 0 by omega)
  have h2 := Int.emod_lt_of_pos a hn
  have h := tmod_up a n hn
  split at h <;> omega

end Go.Proofs.Ytdilkgcoecipjaa

namespace Go.Proofs.Ytdilkgcoecipjaa
open Go.RowKit
set_option linter.unusedVariables false

def IsRow (k : IntKind) (w : World) (a : Option Addr) (len cap : Nat) (zs : List Int) : Prop :=
  (a = none ∧ len = 0 ∧ cap = 0 ∧ zs = []) ∨
  ∃ x, a = some x ∧ len ≤ cap ∧ cap ≤ maxLen ∧ zs.length = cap ∧ (∀ i, i < zs.length → w.cell? (x.add i) = some (.int k (zs.getD i 0))) ∧ ∀ n ∈ zs, (Lit.int k n).wf = true

theorem spot_of_cell {w : World} {x : Addr} {v : Value} (h : w.cell? (x.add 0) = some v) : x.spot = none := by
  have : x.add 0 = x := by simp [Addr.add]
  rw [this] at h
  unfold World.cell? at h
  split at h
  · cases hs : x.spot with
    | none => rfl
    | some _ => simp [hs] at h
  · cases h

/-- a slice of integers, as cells -/
theorem IsRow.rd {k : IntKind} {w : World} {a : Option Addr} {len cap : Nat} {zs : List Int} (h : IsRow k w a len cap zs) :
    Rd w 1 (.slice a len cap) len ((zs.take len).map (Value.int k)) := by
  rcases h with ⟨rfl, rfl, rfl, rfl⟩ | ⟨x, rfl, hl, hm, hz, hc, _⟩
  · simpa using Rd.nil w 1
  · refine ⟨by simp; omega, _, _, rfl, hl, hm, (fun h => by cases h), fun b hb j u hu => ?_⟩
    cases hb
    have hj : j < len := by
      have := (List.getElem?_eq_some_iff.1 hu).1
      simp at this; omega
    have hs := spot_of_cell (hc 0 (by omega))
    have h1 := hc j (by omega)
    rw [Addr.add_off x hs] at h1
    rw [h1]
    refine ⟨hs, ?_⟩
    simp [hj] at hu
    obtain ⟨y, hy, rfl⟩ := hu
    simp [hy]

theorem u8_of_wf {z : Int} (h : (Lit.int .u8 z).wf = true) : 0 ≤ z ∧ z ≤ 255 := by
  simpa [Lit.wf, IntKind.min, IntKind.max, IntKind.signed, IntKind.bits] using h
theorem i64_of_wf {z : Int} (h : (Lit.int .i64 z).wf = true) : -9223372036854775808 ≤ z ∧ z ≤ 9223372036854775807 := by
  simpa [Lit.wf, IntKind.min, IntKind.max, IntKind.signed, IntKind.bits] using h

/-- bytes that came in -/
theorem IsRow.bytes {w : World} {a : Option Addr} {len cap : Nat} {zs : List Int} (h : IsRow .u8 w a len cap zs) :
    ∃ l : List UInt8, l.length = len ∧ Bs w (.slice a len cap) l := by
  have hlen : (zs.take len).length = len := by
    rcases h with ⟨rfl, rfl, rfl, rfl⟩ | ⟨x, rfl, hl, hm, hz, hc, _⟩ <;> simp; omega
  have hr := h.rd
  have hwf : ∀ n ∈ zs, 0 ≤ n ∧ n ≤ 255 := by
    rcases h with ⟨rfl, rfl, rfl, rfl⟩ | ⟨x, rfl, hl, hm, hz, hc, hw⟩
    · simp
    · exact fun n hn => u8_of_wf (hw n hn)
  have e1 : bv ((zs.take len).map fun z => UInt8.ofNat z.toNat) = (zs.take len).map (Value.int .u8) := by
    unfold bv
    rw [List.map_map]
    refine List.map_congr_left fun z hz => ?_
    have hb := hwf z (List.mem_of_mem_take hz)
    simp only [Function.comp]
    rw [u8_back z hb.1 (by omega)]
  have e2 : ((zs.take len).map fun z => UInt8.ofNat z.toNat).length = len := by rw [List.length_map]; exact hlen
  refine ⟨_, e2, ?_⟩
  unfold Bs
  rw [e1, e2]
  exact hr
end Go.Proofs.Ytdilkgcoecipjaa

namespace Go.Proofs.Ytdilkgcoecipjaa
open Go.RowKit
set_option linter.unusedVariables false

/-- a slice of truth values that came in -/
def IsBools (w : World) (a : Option Addr) (len cap : Nat) (ks : List Bool) : Prop := ks.length = len ∧ Rd w 1 (.slice a len cap) len (ks.map Value.bool)

theorem bools_of_trod {H : Type} {enc : TypeId × Value → H} {P : Program} {w : World} {base : Nat} {held : Bool} {t e : TypeId} {fuel : Nat} {a : Option Addr} {len cap : Nat} {x : DataW H × List MemPlace} (ht : P.underlying t = some (.slice e)) (he : P.underlying e = some .bool) (hc : P.cellsOf e = 1)
    (h : DataW.trod enc P w base (fun _ => true) held fuel t (Value.slice a len cap).cells.toList = some x) : ∃ ks, IsBools w a len cap ks := by
  rcases Go.Deep.open_bools ht he hc h with ⟨h0, _⟩ | ⟨b, l, c, B, h0, _, hl, hm, _, hcell⟩
  · simp [Value.cells] at h0
    obtain ⟨rfl, rfl, rfl⟩ := h0
    exact ⟨[], rfl, Rd.nil _ _⟩
  · simp [Value.cells] at h0
    obtain ⟨rfl, rfl, rfl⟩ := h0
    refine ⟨(List.range len).map B, by simp, by simp, _, _, rfl, hl, hm, (fun h => by cases h), fun q hq j u hu => ?_⟩
    cases hq
    have hj : j < len := by
      have := (List.getElem?_eq_some_iff.1 hu).1
      simpa using this
    have hs := spot_of_cell (hcell 0 (by omega))
    have h1 := hcell j (by omega)
    rw [Addr.add_off b hs] at h1
    rw [h1]
    refine ⟨hs, ?_⟩
    simp [hj] at hu
    rw [← hu]
end Go.Proofs.Ytdilkgcoecipjaa
