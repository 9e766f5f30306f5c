/- triadref1: numbers alone (for a seat that has no more of it). -/
import Derived.Test.YtplahohlmiphoaaRows
import Derived.Test.YtplahohlmiphoaaCodeC
import Derived.Deep.QuietTactic
import Derived.BigQuiet
import Derived.StillTailTactics
namespace Go.Proofs.Ytplahohlmiphoaa
open Go.RowKit
set_option linter.unusedVariables false

/-- the reference's reader at a block: what is left, the error -/
def XRd (w : World) (r : Nat) (ob : Option Nat) (l : List UInt8) (e : Int) : Prop :=
  ∃ v b p, w.heap[r]? = some (.cells #[v, .int .i64 ((p : Nat) : Int), .int .i64 e] 98 (0, 0)) ∧ Bs w v b ∧ (0 < b.length → v.ownBlock = ob) ∧ ob ≠ some r ∧ p ≤ b.length ∧ b.length ≤ 1000000 ∧ l = b.drop p

theorem XRd.chg {w w' : World} {fp : Nat → Prop} {r : Nat} {ob : Option Nat} {l : List UInt8} {e : Int} (h : XRd w r ob l e) (hc : Chg fp w w') (hr : ¬ fp r)
    (ho : ∀ g, ob = some g → g < w.heap.size → ¬ fp g) : XRd w' r ob l e := by
  obtain ⟨v, b, p, h1, h2, h3, h4⟩ := h
  exact ⟨v, b, p, hc.heap h1 hr, h2.chg hc (fun hz g hg hlt => ho g (h3 hz ▸ hg) hlt), h3, h4⟩

theorem three_cells {w : World} {r : Nat} {x y z : Value} {T : TypeId} (h : w.heap[r]? = some (.cells #[x, y, z] T (0, 0))) :
    w.cell? ⟨r, 0, none⟩ = some x ∧ w.cell? ⟨r, 1, none⟩ = some y ∧ w.cell? ⟨r, 2, none⟩ = some z ∧ w.frozen? ⟨r, 0, none⟩ = false ∧ w.frozen? ⟨r, 1, none⟩ = false ∧ w.frozen? ⟨r, 2, none⟩ = false := by
  refine ⟨?_, ?_, ?_, frozen_of_row _ _ _ _ _ h, frozen_of_row _ _ _ _ _ h, frozen_of_row _ _ _ _ _ h⟩ <;> rw [cell_of_row _ _ _ _ _ _ h] <;> rfl

theorem xtake_any (r : Nat) (ob : Option Nat) (l : List UInt8) (e : Int) (n : Nat) (w : World) (hr : XRd w r ob l e) (hn : n ≤ 100000) (he0 : 0 ≤ e) (he1 : e ≤ 1000) :
    Calls Try.prog 61 #[.pointer (some ⟨r, 0, none⟩), .int .i64 n] w fun en w' => ∃ p m c, en = .returned (.slice p m c) ∧ Chg (fun k => k = r) w w' ∧
      XRd w' r ob (tkLeft l e n) (tkErr l e n) ∧ Bs w' (.slice p m c) (tkGot l e n) := by
  obtain ⟨v, b, p, hblk, hv, hob, hne0, hpb, hbl, rfl⟩ := hr
  have hne : 0 < b.length → v.ownBlock ≠ some r := fun hz => by rw [hob hz]; exact hne0
  have HOB := hid hob
  have HNE := hid hne0
  clear hob hne0
  obtain ⟨c0, c1, c2, f0, f1, f2⟩ := three_cells hblk
  have HV := hid hv
  have HB := hid hblk
  have HN := hid hne
  obtain ⟨_, pa, cap, rfl, _⟩ := hv
  clear hblk hne
  by_cases he : e = 0
  · subst he
    by_cases hlt : b.length - p < n
    · have hi : (b.length : Int) - (p : Int) < (n : Int) := by omega
      go_enter Try.func61, Try.ntmps61
      go_wp2
      go_quiet (fail)
      go_wp2
      go_ret
      have e1 : tkLeft (b.drop p) 0 n = b.drop p := by simp [tkLeft]; intro h; omega
      have e2 : tkErr (b.drop p) 0 n = 7 := by simp [tkErr]; omega
      have e3 : tkGot (b.drop p) 0 n = [] := by simp [tkGot]; intro h; omega
      rw [e1, e2, e3]
      have hc : Chg (fun k => k = r) w ((w.drewN nq).setCell ⟨r, 2, none⟩ (.int .i64 7)) := Chg.drewN' (n := nq) (Chg.setCell (fp := fun k => k = r) (w.drewN nq) rfl _)
      exact ⟨_, _, _, rfl, hc, ⟨_, b, p, heap_setCell_same _ _ _ _ _ _ HB.out, Rd.chg HV.out hc (fun hz => ownBlock_chg (HN.out hz) hz), HOB.out, HNE.out, hpb, hbl, rfl⟩, Rd.nil _ _⟩
    · have hi : ¬ ((b.length : Int) - (p : Int) < (n : Int)) := by omega
      have hd : decide ((b.length : Int) - (p : Int) < (n : Int)) = false := by simpa using hi
      have hrd := slice_rd_of w 1 pa b.length cap (bv b) HV.out p (p + n) (by omega) (by omega)
      have hsl := fun wx => run_slice_rd (P := Try.prog) wx 26 5 1 Try.underlying26 infoU8' pa b.length cap p (p + n) (by
        have h := HV.out; obtain ⟨_, p', c', he, _, _, h5, _⟩ := h; cases he; exact h5) (by omega) (by have h := HV.out; obtain ⟨_, p', c', he, h3, _⟩ := h; cases he; omega) (some (.int .i64 p)) (some (.int .i64 ((p + n : Nat) : Int))) (.inr ⟨_, rfl⟩) (.inr ⟨_, rfl⟩)
      have ecast : ((p + n : Nat) : Int) = (p : Int) + (n : Int) := by omega
      have esub : p + n - p = n := by omega
      rw [ecast, esub] at hsl
      rw [esub] at hrd
      generalize (if cap = p then pa else pa.map (·.add (p * 1))) = q at hsl hrd
      generalize cap - p = qc at hsl hrd
      have HQ := hid hrd
      clear hrd ecast esub
      go_enter Try.func61, Try.ntmps61
      go_wp2
      go_quiet (fail)
      go_wp2
      go_quiet (fail)
      go_wp2
      go_ret
      have e1 : tkLeft (b.drop p) 0 n = b.drop (p + n) := by simp [tkLeft]; intro h; omega
      have e2 : tkErr (b.drop p) 0 n = 0 := by simp [tkErr]; omega
      have e3 : tkGot (b.drop p) 0 n = (b.drop p).take n := by simp [tkGot]; intro h; omega
      rw [e1, e2, e3]
      have hc : ∀ m1 m2, Chg (fun k => k = r) w (((w.drewN m1).setCell ⟨r, 1, none⟩ (.int .i64 ((p : Int) + (n : Int)))).drewN m2) := fun m1 m2 =>
        (Chg.drewN' (n := m1) (Chg.setCell (fp := fun k => k = r) (w.drewN m1) rfl _)).trans (Chg.drewN (fun k => k = r) _ _) (fun _ _ h => h)
      have hlen : ((b.drop p).take n).length = n := by simp; omega
      have hB : Bs w (.slice q n qc) ((b.drop p).take n) := by
        unfold Bs; rw [hlen]
        have h := HQ.out.1
        simp only [Nat.mul_one] at h
        have h2 : ((bv b).drop p).take n = bv ((b.drop p).take n) := by simp [bv]
        rwa [h2] at h
      refine ⟨_, _, _, rfl, hc _ _, ⟨_, b, p + n, ?_, Rd.chg HV.out (hc _ _) (fun hz => ownBlock_chg (HN.out hz) hz), HOB.out, HNE.out, by omega, hbl, rfl⟩, Rd.chg hB (hc _ _) (fun hz g hg hlt => by rw [HQ.out.2] at hg; exact ownBlock_chg (HN.out (by omega)) hz g hg hlt)⟩
      exact heap_setCell_same _ _ _ _ _ _ HB.out
  · have he' : (e == 0) = false := by simpa using he
    have hen : (e != 0) = true := by simpa using he
    go_enter Try.func61, Try.ntmps61
    go_wp2
    go_quiet (fail)
    go_wp2
    go_ret
    have e1 : tkLeft (b.drop p) e n = b.drop p := by simp [tkLeft, he]
    have e2 : tkErr (b.drop p) e n = e := by simp [tkErr, he]
    have e3 : tkGot (b.drop p) e n = [] := by simp [tkGot, he]
    rw [e1, e2, e3]
    have hc : Chg (fun k => k = r) w (w.drewN nq) := Chg.drewN _ _ _
    exact ⟨_, _, _, rfl, hc, ⟨_, b, p, HB.out, Rd.chg HV.out hc (fun hz => ownBlock_chg (HN.out hz) hz), HOB.out, HNE.out, hpb, hbl, rfl⟩, Rd.nil _ _⟩

theorem xcNew_any (v : Value) (l : List UInt8) (w : World) (hv : Bs w v l) (hl : l.length ≤ 1000000) :
    Calls Try.prog 47 #[v] w fun en w' => ∃ r, en = .returned (.pointer (some ⟨r, 0, none⟩)) ∧ Below w.heap.size w w' ∧ w.heap.size ≤ r ∧ ∃ os, (∀ g, os = some g → v.ownBlock = some g ∧ 0 < l.length) ∧ XRd w' r os l 0 := by
  have HV := hid hv
  obtain ⟨_, p, cap, rfl, _⟩ := hv
  go_enter Try.func47, Try.ntmps47
  go_wp2
  go_ret
  have hos : ∀ g, (if 0 < l.length then Value.ownBlock (.slice p l.length cap) else none) = some g → Value.ownBlock (.slice p l.length cap) = some g ∧ 0 < l.length := by
    intro g hg
    by_cases hz : 0 < l.length
    · rw [if_pos hz] at hg; exact ⟨hg, hz⟩
    · rw [if_neg hz] at hg; cases hg
  refine ⟨_, rfl, (Below.refl _ _).alloc (Nat.le_refl _) _, Nat.le_refl _, _, hos, _, l, 0, heap_alloc_new _ _, ?_, ?_, ?_, Nat.zero_le _, hl, rfl⟩
  · exact Rd.chg HV.out (Chg.alloc NoFp _ _) (fun _ _ _ _ h => h)
  · intro hz; rw [if_pos hz]
  · intro hk; obtain ⟨h1, h2⟩ := hos _ hk; have := Rd.lt HV.out h2 (by omega) _ h1; omega

theorem xcInt_any (r : Nat) (ob : Option Nat) (l : List UInt8) (e : Int) (w : World) (hr : XRd w r ob l e) (he0 : 0 ≤ e) (he1 : e ≤ 1000) :
    Calls Try.prog 48 #[.pointer (some ⟨r, 0, none⟩)] w fun en w' => en = .returned (.int .i64 (wrap64 (num (tkGot l e 8)))) ∧ Chg (fun k => k = r) w w' ∧
      XRd w' r ob (tkLeft l e 8) (tkErr l e 8) := by
  have HT := hid (xtake_any r ob l e 8 w hr (by omega) he0 he1)
  have hg := tkGot_length l e 8
  generalize tkGot l e 8 = g at HT hg ⊢
  go_enter Try.func48, Try.ntmps48
  go_wp2_with (first | (go_at_call 61; refine HT.out.mono ?_; rintro en w1 ⟨p, m, c, rfl, hc, hx, hp⟩; have HC := hid hc; have HX := hid hx; have HP := hid hp; obtain ⟨_, _, _, he, _⟩ := hp; cases he; clear hc hx HT))
  go_loopw [5, 3] (fun i v wr => ∃ k : Nat, k ≤ g.length ∧ i = .int .i64 ((k : Int) - 1) ∧ v = .int .u64 (num (g.drop k) : Nat) ∧ wr = w1) (fun i _ _ => (intOf i + 1).toNat)
  case atStart => exact ⟨g.length, Nat.le_refl _, rfl, by simp [num], rfl⟩
  case round =>
    obtain ⟨k, hk, rfl, rfl, rfl⟩ := hrel
    by_cases hlt : 0 < k
    · obtain ⟨bb, off, rfl, hc⟩ := Rd.addr HP.out (by omega)
      obtain ⟨j, rfl⟩ : ∃ j, k = j + 1 := ⟨k - 1, by omega⟩
      have hck := hc _ _ (bv_at (show j < g.length by omega))
      have hO := hid (or_down g j (by omega) hg)
      have hb := g[j].toNat_lt
      generalize g[j] = x at hck hb hO
      have hn := num_lt (g.drop (j + 1))
      clear hc
      go_wp2
      rw [hO.out]
      exact ⟨⟨j, by omega, rfl, rfl, trivial⟩, by simp [intOf]⟩
    · obtain rfl : k = 0 := by omega
      go_wp2
      go_ret
      exact ⟨by simp, HC.out, HX.out⟩

end Go.Proofs.Ytplahohlmiphoaa
