/- package disk: Crash, New. -/
import Derived.Test.YtdilkgcoecipjaaDisk2
import Derived.Lib.MinMax
namespace Go.Proofs.Ytdilkgcoecipjaa
open Go.RowKit
set_option linter.unusedVariables false

/-- where the loop of Crash is -/
def CrashAt (w : World) (d bn bk : Nat) (fp : Nat → Prop) (n : Nat) (s : DS) (sv kv : Value) (keep : List Bool) (i : Nat) (F : List UInt8) (wr : World) : Prop :=
  i ≤ keep.length ∧ i ≤ s.since.length ∧ F.length = n * 512 ∧ dKept (keep.drop i) (s.since.drop i) F = dKept keep s.since s.kept ∧ Chg fp w wr ∧
  Blk wr d [.slice (some ⟨bn, 0, none⟩) n n, .slice (some ⟨bk, 0, none⟩) n n, sv, .int .i64 s.stop, .int .i64 s.ops, .bool s.dead] 91 ∧ Blk wr bn (bv s.now) 111 ∧
  Blk wr bk (bv F) 111 ∧ wr.ownsRow 0 145 513 sv s.since.length (sinceCells s.since) ∧ Rd wr 1 kv keep.length (keep.map Value.bool)

theorem crash_step {w wr w3 : World} {d bn bk : Nat} {fp : Nat → Prop} {n : Nat} {s : DS} {sv kv : Value} {keep : List Bool} {i : Nat} {F F' : List UInt8} {b : Bool} {p : Nat × List UInt8}
    (h : CrashAt w d bn bk fp n s sv kv keep i F wr) (hc : Chg (fun q => q = wr.heap.size ∨ q = bk) wr w3) (hb : Blk w3 bk (bv F') 111) (hF : F' = if b then setRowAt F p.1 p.2 else F) (hk : keep[i]? = some b) (hp : s.since[i]? = some p)
    (ok : DOk n s) (g5 : d ≠ bn ∧ d ≠ bk ∧ bn ≠ bk) (hfp : fp bk) (g8 : ∀ g, sv.ownBlock = some g → g ≠ d ∧ g ≠ bn ∧ g ≠ bk ∧ fp g) (hkn : 0 < keep.length → ∀ g, kv.ownBlock = some g → ¬ fp g) : CrashAt w d bn bk fp n s sv kv keep (i + 1) F' w3 := by
  obtain ⟨i1, i2, i3, i4, i5, h1, h2, h3, h4, hkr⟩ := h
  have l1 := (List.getElem?_eq_some_iff.1 hk).1
  have l2 := (List.getElem?_eq_some_iff.1 hp).1
  have hs := ok.since p (List.mem_of_getElem? hp)
  have out : ∀ g, g < wr.heap.size → g ≠ bk → ¬ (fun q => q = wr.heap.size ∨ q = bk) g := fun g hg hne h => by rcases h with h | h; exact not_new hg h; exact hne h
  refine ⟨l1, l2, ?_, ?_, i5.trans hc (fun q hq h => by rcases h with h | h; (have := i5.size; omega); rw [h]; exact hfp), h1.chg hc (out _ h1.lt g5.2.1), h2.chg hc (out _ h2.lt g5.2.2), hb, ?_, ?_⟩
  · rw [hF]
    split
    · unfold setRowAt
      have : (p.1 + 1) * 512 ≤ n * 512 := Nat.mul_le_mul_right _ hs.1
      rw [splice_length _ _ _ (by rw [hs.2, i3]; omega)]; exact i3
    · exact i3
  · rw [← i4, dKept_step hk hp, hF]
  · refine own_chg h4 hc (fun g hg => ?_)
    rcases h4.2 with ⟨q1, q2⟩ | ⟨g', cap, cur, q1, q2, q3, _⟩
    · rw [q1] at hg; cases hg
    · have e : g = g' := by rw [q1] at hg; exact (Option.some.inj hg).symm
      exact out g (by rw [e]; exact (Array.getElem?_eq_some_iff.1 q3).1) (g8 g hg).2.2.1
  · exact hkr.chg hc (fun hpos g hg hlt => out g hlt (fun e => hkn hpos g hg (by rw [e]; exact hfp)))

theorem wZero_length : wZero.length = 513 := by rw [wZero, wRow_length, z512_length]
theorem CellTo {w w' : World} {fp : Nat → Prop} {b off : Nat} (h : Chg fp w w') (hn : ¬ fp b) (hl : b < w.heap.size := by assumption) : w'.cell? ⟨b, off, none⟩ = w.cell? ⟨b, off, none⟩ :=
  World.cell?_of_block (w := w) (a := ⟨b, off, none⟩) (h.block b hl hn)

end Go.Proofs.Ytdilkgcoecipjaa
