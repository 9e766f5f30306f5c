/- rows of pages, among blocks that are made earlier and later. -/
import Derived.Test.YtdilkgcoecipjaaPad
namespace Go.Proofs.Ytdilkgcoecipjaa
open Go.RowKit
set_option linter.unusedVariables false

theorem PutsAt.puts2 {W : Nat} {G fp : Nat → Prop} {ls : List (Int × List UInt8)} {bs : List Value} {w wr : World} {p : Option Addr} {m c : Nat} (h : PutsAt W G ls bs w wr (.slice p m c)) (hG : ∀ g, G g → ¬ fp g) (hfp : ∀ k, fp k → k < W ∨ wr.heap.size ≤ k) :
    IsPuts wr fp p ls ∧ PutsOut fp p := by
  obtain ⟨h1, h2, h3, h4, h5⟩ := h
  have hout : PutsOut fp p := fun ad had hf => by
    subst had
    have := h1.lt ad.block rfl
    have := hfp _ hf
    omega
  refine ⟨fun i hi => ?_, hout⟩
  obtain ⟨g, rfl⟩ : ∃ g, p = some ⟨g, 0, none⟩ := by
    rcases h1.2 with ⟨_, h6⟩ | ⟨g, cap, cur, h5, _⟩
    · omega
    · injection h5 with h5 _ _
      exact ⟨g, h5⟩
  have hq : ls[i]? = some (ls[i]'hi) := List.getElem?_eq_getElem _
  have hb : bs[i]? = some (bs[i]'(by rw [h2]; exact hi)) := List.getElem?_eq_getElem _
  have hc := putCells_get ls bs i _ _ hq hb
  have hcells := h1.cells (g := g) rfl
  have k0 := hcells _ _ hc.1
  have k1 := hcells _ _ hc.2
  rw [Addr.add_off _ rfl] at k0 k1
  have h9 := h3 i _ _ hq hb
  obtain ⟨_, p9, c9, he9, _⟩ := id h9.1
  refine ⟨g, 0, _, p9, c9, rfl, hq, k0, ?_, ?_⟩
  · rw [← he9, Nat.add_assoc]; exact k1
  · rw [← he9]; exact ⟨h9.1, fun hz g hg => hG g (h9.2 hz g hg).1⟩

theorem cmt_ops (n : Nat) (s : DS) (ls : List (Int × List UInt8)) (hl : ls.length ≤ 1000) : (cmt n s ls).1.ops ≤ s.ops + 2010 := by
  unfold cmt
  split
  · have h1 := runStps_ops n (comSteps ls) s
    rw [comSteps_length] at h1
    split
    · have h2 := runStps_ops n (finSteps ls) (runStps n s (comSteps ls)).1
      rw [finSteps_length] at h2
      push_cast at h1 h2; omega
    · push_cast at h1; omega
  · simp only; omega
theorem wf_small {x : Int} (h0 : 0 ≤ x) (h1 : x < 1000000) : (Lit.int .i64 x).wf = true := by
  simp [Lit.wf, IntKind.min, IntKind.max, IntKind.signed, IntKind.bits]
  omega
end Go.Proofs.Ytdilkgcoecipjaa
