/- code.Reader: what its methods answer, and what is left to read. -/
import Derived.Test.YtdilkgcoecipjaaRows
import Derived.Test.YtdilkgcoecipjaaCodePut
import Derived.Test.YtdilkgcoecipjaaNum
import Derived.Outline
namespace Go.Proofs.Ytdilkgcoecipjaa
open Go.RowKit
set_option linter.unusedVariables false

/-- a reader at a block: what is left, the error -/
def Rdr (w : World) (r : Nat) (ob : Option Nat) (l : List UInt8) (e : Int) : Prop :=
  ∃ v, w.heap[r]? = some (.cells #[v, .int .i64 e] 127 (0, 0)) ∧ Bs w v l ∧ v.ownBlock = ob ∧ ob ≠ some r

/-- taking n bytes: what is had, what is left, the error -/
def tkGot (l : List UInt8) (e : Int) (n : Nat) : List UInt8 := if e ≠ 0 then [] else if l.length < n then [] else l.take n
def tkLeft (l : List UInt8) (e : Int) (n : Nat) : List UInt8 := if e ≠ 0 then l else if l.length < n then l else l.drop n
def tkErr (l : List UInt8) (e : Int) (n : Nat) : Int := if e ≠ 0 then e else if l.length < n then 7 else 0


theorem two_cells {w : World} {r : Nat} {x y : Value} {T : TypeId} (h : w.heap[r]? = some (.cells #[x, y] T (0, 0))) :
    w.cell? ⟨r, 0, none⟩ = some x ∧ w.cell? ⟨r, 1, none⟩ = some y ∧ w.frozen? ⟨r, 0, none⟩ = false ∧ w.frozen? ⟨r, 1, none⟩ = false := by
  refine ⟨?_, ?_, frozen_of_row _ _ _ _ _ h, frozen_of_row _ _ _ _ _ h⟩ <;> rw [cell_of_row _ _ _ _ _ _ h] <;> rfl

theorem two_set1 {w : World} {r : Nat} {x y z : Value} {T : TypeId} (h : w.heap[r]? = some (.cells #[x, y] T (0, 0))) :
    (w.setCell ⟨r, 1, none⟩ z).heap[r]? = some (.cells #[x, z] T (0, 0)) := heap_setCell_same _ _ _ _ _ _ h
theorem two_set0 {w : World} {r : Nat} {x y z : Value} {T : TypeId} (h : w.heap[r]? = some (.cells #[x, y] T (0, 0))) :
    (w.setCell ⟨r, 0, none⟩ z).heap[r]? = some (.cells #[z, y] T (0, 0)) := heap_setCell_same _ _ _ _ _ _ h

theorem ownBlock_chg {r n m : Nat} {v : Value} (h : v.ownBlock ≠ some r) : 0 < n → ∀ g, v.ownBlock = some g → g < m → ¬ (g = r) := by
  rintro _ g hg _ rfl; exact h hg

theorem Rdr.chg {w w' : World} {fp : Nat → Prop} {r : Nat} {ob : Option Nat} {l : List UInt8} {e : Int} (h : Rdr w r ob l e) (hc : Chg fp w w') (hr : ¬ fp r)
    (ho : ∀ g, ob = some g → g < w.heap.size → ¬ fp g) : Rdr w' r ob l e := by
  obtain ⟨v, h1, h2, h3, h4⟩ := h
  exact ⟨v, hc.heap h1 hr, h2.chg hc (fun _ g hg hlt => ho g (h3 ▸ hg) hlt), h3, h4⟩

theorem take_any (r : Nat) (ob : Option Nat) (l : List UInt8) (e : Int) (n : Nat) (w : World) (hr : Rdr w r ob l e) (hl : l.length ≤ 1000000) (hn : n ≤ 100000) (he0 : 0 ≤ e) (he1 : e ≤ 1000) :
    Calls Try.prog 81 #[.pointer (some ⟨r, 0, none⟩), .int .i64 n] w fun en w' => ∃ p, en = .returned p ∧ Chg (fun k => k = r) w w' ∧
      Rdr w' r ob (tkLeft l e n) (tkErr l e n) ∧ Bs w' p (tkGot l e n) ∧ p.ownBlock ≠ some r := by
  obtain ⟨v, hblk, hv, hob, hne⟩ := hr
  obtain ⟨c0, c1, f0, f1⟩ := two_cells hblk
  have HV := hid hv
  obtain ⟨hlen, p, cap, rfl, h3, h4, h5, h6⟩ := hv
  have hne' : Value.ownBlock (.slice p l.length cap) ≠ some r := by rw [hob]; exact hne
  have HN := hid hne'; clear hne'
  have HO := hid hob; clear hob
  have HNE := hid hne; clear hne
  have HB := hid hblk; clear hblk
  clear h6 h5 hlen
  by_cases he : e = 0
  · subst he
    by_cases hlt : l.length < n
    · go_enter Try.func81, Try.ntmps81
      go_wp2
      go_ret
      simp only [tkLeft, tkErr, tkGot, if_pos hlt, ne_eq, not_true_eq_false, if_false]
      refine ⟨_, rfl, Chg.setCell (fp := fun k => k = r) _ rfl _, ⟨_, two_set1 HB.out, Rd.chg HV.out (Chg.setCell _ (fp := fun k => k = r) rfl _) (ownBlock_chg HN.out), HO.out, HNE.out⟩, Rd.nil _ _, by simp [Value.ownBlock]⟩
    · have hle : n ≤ l.length := by omega
      go_enter Try.func81, Try.ntmps81
      go_wp2_with (first | (refine wpList_slice_rd rfl 30 _ _ _ rfl 5 1 Try.underlying30 infoU8' _ _ _ rfl HV.out 0 n rfl ⟨_, _, rfl, by omega, by simp⟩ (by omega) hle ?_; intro qa qc hq hqb) | (refine wpList_slice_rd rfl 30 _ _ _ rfl 5 1 Try.underlying30 infoU8' _ _ _ rfl HV.out n l.length ⟨_, _, rfl, by omega, by simp⟩ rfl hle (Nat.le_refl _) ?_; intro qa2 qc2 hq2 hqb2))
      go_ret
      have e1 : tkLeft l 0 n = l.drop n := by simp [tkLeft, if_neg hlt]
      have e2 : tkErr l 0 n = 0 := by simp [tkErr, if_neg hlt]
      have e3 : tkGot l 0 n = l.take n := by simp [tkGot, if_neg hlt]
      rw [e1, e2, e3]
      have hq' : Bs w (.slice qa (n - 0) qc) (l.take n) := by
        have : (l.take n).length = n - 0 := by simp [hle]
        unfold Bs; rw [this]; simpa [bv] using hq
      have hq2' : Bs w (.slice qa2 (l.length - n) qc2) (l.drop n) := by
        unfold Bs
        have h : (bv l).drop n = bv (l.drop n) := by simp [bv]
        simp only [Nat.mul_one, h, List.length_drop] at hq2 ⊢
        rwa [List.take_of_length_le (by simp)] at hq2
      have hn1 : Value.ownBlock (.slice qa (n - 0) qc) ≠ some r := by rw [hqb]; exact HN.out
      have hn2 : Value.ownBlock (.slice qa2 (l.length - n) qc2) ≠ some r := by rw [hqb2]; exact HN.out
      have hc : Chg (fun k => k = r) w (w.setCell ⟨r, 0, none⟩ (.slice qa2 (l.length - n) qc2)) := Chg.setCell (fp := fun k => k = r) _ rfl _
      exact ⟨_, rfl, hc, ⟨_, two_set0 HB.out, Rd.chg hq2' hc (ownBlock_chg hn2), hqb2.trans HO.out, HNE.out⟩, Rd.chg hq' hc (ownBlock_chg hn1), hn1⟩
  · have he' : (e == 0) = false := by simpa using he
    have hen : (e != 0) = true := by simpa using he
    go_enter Try.func81, Try.ntmps81
    go_wp2
    go_ret
    have e1 : tkLeft l e n = l := by simp [tkLeft, he]
    have e2 : tkErr l e n = e := by simp [tkErr, he]
    have e3 : tkGot l e n = [] := by simp [tkGot, he]
    rw [e1, e2, e3]
    exact ⟨_, rfl, Chg.refl _ _, ⟨_, HB.out, HV.out, HO.out, HNE.out⟩, Rd.nil _ _, by simp [Value.ownBlock]⟩

theorem tkGot_length (l : List UInt8) (e : Int) (n : Nat) : (tkGot l e n).length ≤ n := by
  unfold tkGot; split
  · simp
  · split <;> simp; omega

theorem number_any (r : Nat) (ob : Option Nat) (l : List UInt8) (e : Int) (n : Nat) (w : World) (hr : Rdr w r ob l e) (hl : l.length ≤ 1000000) (hn : n ≤ 8) (he0 : 0 ≤ e) (he1 : e ≤ 1000) :
    Calls Try.prog 69 #[.pointer (some ⟨r, 0, none⟩), .int .i64 n] w fun en w' => en = .returned (.int .u64 (num (tkGot l e n))) ∧ Chg (fun k => k = r) w w' ∧
      Rdr w' r ob (tkLeft l e n) (tkErr l e n) := by
  have hgl := tkGot_length l e n
  have HT := take_any r ob l e n w hr hl (by omega) he0 he1
  generalize tkGot l e n = g at hgl HT ⊢
  have HT := hid HT
  go_enter Try.func69, Try.ntmps69
  go_wp2_with (first | (go_at_call 81; refine HT.out.mono ?_; rintro en w1 ⟨p, rfl, hc, hr1, hp, hpb⟩; have HC := hid hc; have HR := hid hr1; have HP := hid hp; obtain ⟨_, a, cap, rfl, _⟩ := hp; clear hr1 hc hpb HT))
  go_loopw [15, 5] (fun i v wr => ∃ k : Nat, k ≤ g.length ∧ i = .int .i64 k ∧ v = .int .u64 (num (g.take k) : Nat) ∧ wr = w1) (fun i _ _ => g.length - (intOf i).toNat)
  case atStart => exact ⟨0, Nat.zero_le _, rfl, rfl, rfl⟩
  case round =>
    obtain ⟨k, hk, rfl, rfl, rfl⟩ := hrel
    by_cases hlt : k < g.length
    · obtain ⟨b, off, rfl, hc⟩ := Rd.addr HP.out (by omega)
      have hck := hc _ _ (bv_at hlt)
      clear hc
      have hk8 : k < 8 := by omega
      have HO := hid (or_round g k hlt hk8)
      have hb := g[k].toNat_lt
      generalize g[k] = c at hck hb HO
      go_wp2
      rw [HO.out]
      exact ⟨⟨k + 1, by omega, by go_num, rfl, trivial⟩, by simp [intOf]; omega⟩
    · obtain rfl : k = g.length := by omega
      go_wp2
      go_ret
      exact ⟨by simp, HC.out, HR.out⟩
end Go.Proofs.Ytdilkgcoecipjaa
