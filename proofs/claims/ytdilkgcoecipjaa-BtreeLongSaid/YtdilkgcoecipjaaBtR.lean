/- btree: bits, and a node that is read off its bytes. -/
import Derived.Test.YtdilkgcoecipjaaBtE
import Derived.Test.YtdilkgcoecipjaaCodeRead
namespace Go.Proofs.Ytdilkgcoecipjaa
open Go.RowKit
set_option linter.unusedVariables false

abbrev TBits : TypeId := 119
/-- bits at a block: what is left -/
def Bit (w : World) (r : Nat) (ob : Option Nat) (b : Tx) : Prop :=
  ∃ v, w.heap[r]? = some (.cells #[v, .bool false] TBits (0, 0)) ∧ Bs w v b ∧ v.ownBlock = ob ∧ ob ≠ some r
theorem Bit.chg {w w' : World} {fp : Nat → Prop} {r : Nat} {ob : Option Nat} {b : Tx} (h : Bit w r ob b) (hc : Chg fp w w') (hr : ¬ fp r)
    (ho : ∀ g, ob = some g → g < w.heap.size → ¬ fp g) : Bit w' r ob b := by
  obtain ⟨v, h1, h2, h3, h4⟩ := h
  exact ⟨v, hc.heap h1 hr, h2.chg hc (fun _ g hg hlt => ho g (h3 ▸ hg) hlt), h3, h4⟩
theorem Bit.new {w w' : World} {r : Nat} {ob : Option Nat} {b : Tx} (h : Bit w r ob b) (hb : Below w.heap.size w w') : Bit w' r ob b :=
  h.chg (Chg.new hb NoFp) (fun h => h) (fun _ _ _ h => h)

set_option maxHeartbeats 1000000 in
theorem btake_any (r : Nat) (ob : Option Nat) (l : Tx) (n : Nat) (w : World) (hr : Bit w r ob l) (hl : l.length ≤ 1000000) (hle : n ≤ l.length) :
    Calls Try.prog 63 #[.pointer (some ⟨r, 0, none⟩), .int .i64 n] w fun en w' => ∃ p c, en = .returned (.slice p n c) ∧ Chg (fun k => k = r) w w' ∧
      Bit w' r ob (l.drop n) ∧ Rd w' 1 (.slice p n c) n (bv (l.take n)) ∧ Value.ownBlock (.slice p n c) = ob := by
  obtain ⟨v, hblk, hv, hob, hne⟩ := hr
  obtain ⟨c0, c1, f0, f1⟩ := two_cells hblk
  have HV := hid hv
  obtain ⟨hlen, p, cap, rfl, h3, h4, h5, h6⟩ := hv
  have hne' : Value.ownBlock (.slice p l.length cap) ≠ some r := by rw [hob]; exact hne
  have HN := hid hne'; clear hne'
  have HO := hid hob; clear hob
  have HNE := hid hne; clear hne
  have HB := hid hblk; clear hblk
  clear h6 h5 hlen
  have hn2 : ¬ (l.length : Int) < (n : Int) := by omega
  go_enter Try.func63, Try.ntmps63
  go_wp2_with (first | (refine wpList_slice_rd rfl 30 _ _ _ rfl 5 1 Try.underlying30 infoU8' _ _ _ rfl HV.out 0 n rfl ⟨_, _, rfl, by omega, by simp⟩ (by omega) hle ?_; intro qa qc hq hqb) | (refine wpList_slice_rd rfl 30 _ _ _ rfl 5 1 Try.underlying30 infoU8' _ _ _ rfl HV.out n l.length ⟨_, _, rfl, by omega, by simp⟩ rfl hle (Nat.le_refl _) ?_; intro qa2 qc2 hq2 hqb2))
  go_ret
  have hq' : Rd w 1 (.slice qa n qc) n (bv (l.take n)) := by
    simpa [bv] using hq
  have hq2' : Bs w (.slice qa2 (l.length - n) qc2) (l.drop n) := by
    unfold Bs
    have h : (bv l).drop n = bv (l.drop n) := by simp [bv]
    simp only [Nat.mul_one, h, List.length_drop] at hq2 ⊢
    rwa [List.take_of_length_le (by simp)] at hq2
  have hn0 : Value.ownBlock (.slice qa n qc) = Value.ownBlock (.slice p l.length cap) := by
    rw [show Value.ownBlock (.slice qa n qc) = Value.ownBlock (.slice qa (n - 0) qc) from rfl, hqb]; rfl
  have hn1 : Value.ownBlock (.slice qa n qc) ≠ some r := by rw [hn0]; exact HN.out
  have hn2 : Value.ownBlock (.slice qa2 (l.length - n) qc2) ≠ some r := by rw [hqb2]; exact HN.out
  have hc : Chg (fun k => k = r) w (w.setCell ⟨r, 0, none⟩ (.slice qa2 (l.length - n) qc2)) := Chg.setCell (fp := fun k => k = r) _ rfl _
  exact ⟨_, _, rfl, hc, ⟨_, two_set0 HB.out, Rd.chg hq2' hc (ownBlock_chg hn2), hqb2.trans HO.out, HNE.out⟩, Rd.chg hq' hc (ownBlock_chg hn1), hn0.trans HO.out⟩

theorem take_enc {t rest : Tx} (h : t.length < 256) : (encT t ++ rest).take 1 = [UInt8.ofNat t.length] ∧ (encT t ++ rest).drop 1 = t ++ rest ∧ (UInt8.ofNat t.length).toNat = t.length := by
  refine ⟨by simp [encT], by simp [encT], ?_⟩
  rw [UInt8.toNat_ofNat']; omega

set_option maxHeartbeats 1000000 in
theorem btext_any (r : Nat) (ob : Option Nat) (t rest : Tx) (w : World) (hr : Bit w r ob (encT t ++ rest)) (ht : t.length < 256) (hl : (encT t ++ rest).length ≤ 100000) :
    Calls Try.prog 64 #[.pointer (some ⟨r, 0, none⟩)] w fun en w' => en = .returned (.string (B t)) ∧ Chg (fun k => k = r) w w' ∧ Bit w' r ob rest := by
  have HR := hid hr
  have HT := hid (take_enc (rest := rest) ht)
  have hl1 : (encT t ++ rest).length ≤ 1000000 := by omega
  have hl2 : (t ++ rest).length ≤ 1000000 := by simp [encT] at hl; simp; omega
  have HL := hid hl1
  have HL2 := hid hl2
  clear hr hl hl1 hl2
  go_enter Try.func64, Try.ntmps64
  go_wp2_with fail
  refine (btake_any r ob _ 1 w HR.out HL.out (by simp [encT])).mono ?_
  rintro e1 w1 ⟨p1, c1, rfl, hc1, hb1, hr1, _⟩
  rw [HT.out.1] at hr1
  rw [HT.out.2.1] at hb1
  obtain ⟨bb, ob1, rfl, hcc⟩ := hr1.addr (by omega)
  have hc0 : w1.cell? ⟨bb, ob1, none⟩ = some (.int .u8 ((UInt8.ofNat t.length).toNat : Int)) := hcc 0 _ rfl
  rw [HT.out.2.2] at hc0
  have HB1 := hid hb1
  have HC1 := hid hc1
  clear hb1 hc1 hr1 hcc
  go_wp2_with fail
  refine (btake_any r ob _ t.length w1 HB1.out HL2.out (by simp)).mono ?_
  rintro e2 w2 ⟨p2, c2, rfl, hc2, hb2, hr2, _⟩
  rw [List.take_left' rfl] at hr2
  rw [List.drop_left' rfl] at hb2
  have HB2 := hid hb2
  have HC2 := hid (HC1.out.trans hc2 (fun _ _ h => h))
  have HR2 := hid hr2
  clear hb2 hc2 hr2
  go_wp2_with (refine wpList_bytes_str rfl _ _ _ rfl 5 Try.underlying30 Try.underlying5 Try.underlying9 _ _ rfl HR2.out ?_)
  go_ret
  exact ⟨rfl, HC2.out, HB2.out⟩
end Go.Proofs.Ytdilkgcoecipjaa
