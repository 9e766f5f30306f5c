/- triadref2: the document's disk, over the same data as the program's. -/
import Derived.Test.YtplahohlmiphoaaLaw2a
namespace Go.Proofs.Ytplahohlmiphoaa
open Go.RowKit
set_option linter.unusedVariables false

def rowV (g : Nat) : Value := .slice (some ⟨g, 0, none⟩) 512 512
/-- the cells of the changes; hs: the blocks of their bytes -/
def chCells : List (Nat × List UInt8) → List Nat → List Value
  | p :: ps, g :: gs => .int .i64 (p.1 : Int) :: rowV g :: chCells ps gs
  | _, _ => []
theorem chCells_length : ∀ (ps : List (Nat × List UInt8)) (gs : List Nat), gs.length = ps.length → (chCells ps gs).length = ps.length * 2
  | [], [], _ => rfl
  | p :: ps, g :: gs, h => by simp only [chCells, List.length_cons] at *; rw [chCells_length ps gs (by omega)]; omega
  | p :: ps, [], h => by simp at h
  | [], g :: gs, h => by simp at h
theorem chCells_snoc : ∀ (ps : List (Nat × List UInt8)) (gs : List Nat) (p : Nat × List UInt8) (g : Nat), gs.length = ps.length → chCells (ps ++ [p]) (gs ++ [g]) = chCells ps gs ++ [.int .i64 (p.1 : Int), rowV g]
  | [], [], _, _, _ => rfl
  | q :: ps, h :: gs, p, g, e => by simp only [List.cons_append, chCells]; rw [chCells_snoc ps gs p g (by simpa using e)]
  | q :: ps, [], _, _, h => by simp at h
  | [], g :: gs, _, _, h => by simp at h
theorem chCells_at : ∀ (ps : List (Nat × List UInt8)) (gs : List Nat) (i : Nat) (p : Nat × List UInt8) (g : Nat), ps[i]? = some p → gs[i]? = some g →
    (chCells ps gs)[i * 2]? = some (.int .i64 (p.1 : Int)) ∧ (chCells ps gs)[i * 2 + 1]? = some (rowV g)
  | [], _, i, p, g, h, _ => by simp at h
  | q :: ps, [], i, p, g, _, h => by simp at h
  | q :: ps, h :: gs, 0, p, g, h1, h2 => by simp at h1 h2; subst h1; subst h2; exact ⟨rfl, rfl⟩
  | q :: ps, h :: gs, i + 1, p, g, h1, h2 => by
    have ih := chCells_at ps gs i p g (by simpa using h1) (by simpa using h2)
    have e : (i + 1) * 2 = i * 2 + 2 := by omega
    rw [e]
    exact ih

/-- all writes done -/
def dAll (ps : List (Nat × List UInt8)) (F : List UInt8) : List UInt8 := ps.foldl (fun F p => setRowAt F p.1 p.2) F
theorem dAll_snoc (ps : List (Nat × List UInt8)) (p : Nat × List UInt8) (F : List UInt8) : dAll (ps ++ [p]) F = setRowAt (dAll ps F) p.1 p.2 := by simp [dAll]
theorem dAll_length {n : Nat} : ∀ (ps : List (Nat × List UInt8)) (F : List UInt8), (∀ p ∈ ps, p.1 < n ∧ p.2.length = 512) → F.length = n * 512 → (dAll ps F).length = n * 512
  | [], F, _, h => h
  | p :: ps, F, hp, h => by
    have h1 := hp p (by simp)
    have h2 : (p.1 + 1) * 512 ≤ n * 512 := Nat.mul_le_mul_right _ h1.1
    refine dAll_length ps _ (fun q hq => hp q (by simp [hq])) ?_
    unfold setRowAt; rw [splice_length _ _ _ (by rw [h1.2, h]; omega)]; exact h

/-- the document's disk at a block: s.now is what its reading reckons -/
def XDk (w : World) (r : Nat) (fp : Nat → Prop) (n : Nat) (s : DS) : Prop :=
  ∃ (sv lv : Value) (gs hs : List Nat), Blk w r [sv, lv, .int .i64 s.stop, .bool s.dead, .int .i64 s.ops] 77 ∧
    w.ownsRow 0 26 1 sv n (gs.map rowV) ∧ w.ownsRow 0 80 2 lv s.since.length (chCells s.since hs) ∧ gs.length = n ∧ hs.length = s.since.length ∧
    (∀ i g : Nat, gs[i]? = some g → Blk w g (bv (row s.kept i)) 5 ∧ fp g ∧ g ≠ r ∧ sv.ownBlock ≠ some g ∧ lv.ownBlock ≠ some g) ∧
    (∀ (i g : Nat) (p : Nat × List UInt8), hs[i]? = some g → s.since[i]? = some p → Blk w g (bv p.2) 5 ∧ fp g ∧ g ≠ r ∧ sv.ownBlock ≠ some g ∧ lv.ownBlock ≠ some g) ∧
    (∀ g, sv.ownBlock = some g → g ≠ r ∧ fp g ∧ lv.ownBlock ≠ some g) ∧ (∀ g, lv.ownBlock = some g → g ≠ r ∧ fp g) ∧ fp r ∧ (∀ k, fp k → k < w.heap.size) ∧ DOk n s ∧ s.now = dAll s.since s.kept

theorem XDk.lt {w : World} {r : Nat} {fp : Nat → Prop} {n : Nat} {s : DS} (h : XDk w r fp n s) : ∀ k, fp k → k < w.heap.size := by
  obtain ⟨_, _, _, _, _, _, _, _, _, _, _, _, _, _, h, _⟩ := h; exact h
theorem XDk.ok {w : World} {r : Nat} {fp : Nat → Prop} {n : Nat} {s : DS} (h : XDk w r fp n s) : DOk n s := by
  obtain ⟨_, _, _, _, _, _, _, _, _, _, _, _, _, _, _, h, _⟩ := h; exact h
theorem XDk.chg {w w' : World} {r : Nat} {fp fq : Nat → Prop} {n : Nat} {s : DS} (h : XDk w r fp n s) (hc : Chg fq w w') (hn : ∀ k, fp k → ¬ fq k) : XDk w' r fp n s := by
  obtain ⟨sv, lv, gs, hs, h1, h2, h3, h4, h5, h6, h7, h8, h9, h10, h11, h12, h13⟩ := h
  exact ⟨sv, lv, gs, hs, h1.chg hc (hn _ h10), own_chg h2 hc (fun g hg => hn g (h8 g hg).2.1), own_chg h3 hc (fun g hg => hn g (h9 g hg).2), h4, h5,
    fun i g hg => ⟨(h6 i g hg).1.chg hc (hn _ (h6 i g hg).2.1), (h6 i g hg).2⟩, fun i g p hg hp => ⟨(h7 i g p hg hp).1.chg hc (hn _ (h7 i g p hg hp).2.1), (h7 i g p hg hp).2⟩, h8, h9, h10,
    fun k hk => Nat.lt_of_lt_of_le (h11 k hk) hc.size, h12, h13⟩

/-- what a call on it leaves -/
def XTo (w : World) (r : Nat) (fp : Nat → Prop) (n : Nat) (s : DS) (w' : World) : Prop :=
  ∃ fp', XDk w' r fp' n s ∧ Chg fp w w' ∧ ∀ k, fp' k → fp k ∨ w.heap.size ≤ k

theorem five_cells {w : World} {r : Nat} {x0 x1 x2 x3 x4 : Value} {T : TypeId} (h : Blk w r [x0, x1, x2, x3, x4] T) :
    w.cell? ⟨r, 0, none⟩ = some x0 ∧ w.cell? ⟨r, 1, none⟩ = some x1 ∧ w.cell? ⟨r, 2, none⟩ = some x2 ∧ w.cell? ⟨r, 3, none⟩ = some x3 ∧ w.cell? ⟨r, 4, none⟩ = some x4 ∧
    w.frozen? ⟨r, 0, none⟩ = false ∧ w.frozen? ⟨r, 1, none⟩ = false ∧ w.frozen? ⟨r, 2, none⟩ = false ∧ w.frozen? ⟨r, 3, none⟩ = false ∧ w.frozen? ⟨r, 4, none⟩ = false := by
  refine ⟨?_, ?_, ?_, ?_, ?_, h.frozen 0, h.frozen 1, h.frozen 2, h.frozen 3, h.frozen 4⟩ <;> rw [h.cell] <;> rfl

theorem own_slice {w : World} {b t sz n : Nat} {v : Value} {xs : List Value} (h : w.ownsRow b t sz v n xs) : ∃ p c, v = .slice p n c ∧ (0 < n → ∃ g, p = some ⟨g, 0, none⟩) := by
  rcases h.2 with ⟨q1, q2⟩ | ⟨g, cap, cur, q1, _⟩
  · exact ⟨none, 0, by rw [q1, q2], fun h => by omega⟩
  · exact ⟨_, _, q1, fun _ => ⟨g, rfl⟩⟩

theorem xSize_any (w : World) (r : Nat) (fp : Nat → Prop) (n : Nat) (s : DS) (h : XDk w r fp n s) :
    Calls Try.prog 49 #[.pointer (some ⟨r, 0, none⟩)] w fun e w' => e = .returned (.int .i64 n) ∧ w = w' := by
  obtain ⟨sv, lv, gs, hs, h1, h2, _⟩ := h
  obtain ⟨p, c, rfl, _⟩ := own_slice h2
  obtain ⟨c0, c1, c2, c3, c4, f0, f1, f2, f3, f4⟩ := five_cells h1
  clear h1 h2
  go_enter Try.func49, Try.ntmps49
  go_wp2
  go_ret
  exact ⟨rfl, rfl⟩

/-- op, on the head alone -/
theorem xOp_raw (w : World) (r : Nat) (x0 x1 : Value) (s : DS) (h1 : Blk w r [x0, x1, .int .i64 s.stop, .bool s.dead, .int .i64 s.ops] 77) (hd : s.dead = false) (hs0 : 0 ≤ s.stop) (hs1 : s.stop ≤ 9223372036854775807) (ho0 : 0 ≤ s.ops) (ho : s.ops ≤ 1000000) :
    Calls Try.prog 40 #[.pointer (some ⟨r, 0, none⟩)] w fun e w' => e = .returned (.bool (dStepGone s)) ∧
      Blk w' r [x0, x1, .int .i64 (dStep s).stop, .bool (dStep s).dead, .int .i64 (dStep s).ops] 77 ∧ Chg (fun k => k = r) w w' ∧ w'.heap.size = w.heap.size := by
  obtain ⟨c0, c1, c2, c3, c4, f0, f1, f2, f3, f4⟩ := five_cells h1
  have H := hid h1
  rw [hd] at c3
  clear h1
  by_cases hst : s.stop < 1
  · have e1 : dStep s = { s with ops := s.ops + 1 } := if_pos hst
    have e2 : dStepGone s = false := if_pos hst
    rw [e1, e2]
    have HD := hid hd
    clear hd
    go_enter Try.func40, Try.ntmps40
    go_wp2
    go_ret
    exact ⟨rfl, H.out.set 4 _, Chg.setCell (fp := fun k => k = r) _ rfl _, by simp [World.setCell]⟩
  · have e1 : dStep s = { s with ops := s.ops + 1, stop := s.stop - 1, dead := (s.stop - 1 == 0) } := if_neg hst
    have e2 : dStepGone s = (s.stop - 1 == 0) := if_neg hst
    rw [e1, e2]
    clear hd e1 e2
    go_enter Try.func40, Try.ntmps40
    go_wp2
    go_ret
    have hc : Chg (fun k => k = r) w (((w.setCell ⟨r, 4, none⟩ (.int .i64 (s.ops + 1))).setCell ⟨r, 2, none⟩ (.int .i64 (s.stop - 1))).setCell ⟨r, 3, none⟩ (.bool (s.stop - 1 == 0))) :=
      ((Chg.setCell (fp := fun k => k = r) _ rfl _).trans (Chg.setCell (fp := fun k => k = r) _ rfl _) (fun _ _ h => h)).trans (Chg.setCell (fp := fun k => k = r) _ rfl _) (fun _ _ h => h)
    exact ⟨rfl, ((H.out.set 4 _).set 2 _).set 3 _, hc, by simp [World.setCell]⟩
end Go.Proofs.Ytplahohlmiphoaa
