/- both disks beside one another. -/
import Derived.Test.YtplahohlmiphoaaPuts2
namespace Go.Proofs.Ytplahohlmiphoaa
open Go.RowKit
set_option linter.unusedVariables false

/-- both disks, in one state; F: the blocks that they had; W: a world in which they had them -/
def RPair (F : Nat → Prop) (d x n : Nat) (m : Int) (W wr : World) (s : DS) (fp fx : Nat → Prop) : Prop :=
  Dsk wr d fp n s ∧ XDk wr x fx n s ∧ (∀ k, fp k → ¬ fx k) ∧ (∀ k, fp k → F k ∨ W.heap.size ≤ k) ∧ (∀ k, fx k → F k ∨ W.heap.size ≤ k) ∧ Chg F W wr ∧ s.ops ≤ m

theorem RPair.new {F : Nat → Prop} {d x n : Nat} {m : Int} {W wr w' : World} {s : DS} {fp fx : Nat → Prop} (h : RPair F d x n m W wr s fp fx) (hb : Below wr.heap.size wr w') : RPair F d x n m W w' s fp fx :=
  ⟨h.1.chg (Chg.new hb NoFp) (fun _ _ h => h), h.2.1.chg (Chg.new hb NoFp) (fun _ _ h => h), h.2.2.1, h.2.2.2.1, h.2.2.2.2.1, h.2.2.2.2.2.1.trans (Chg.new hb F) (fun _ _ h => h), h.2.2.2.2.2.2⟩
theorem RPair.one {F : Nat → Prop} {d x n : Nat} {m : Int} {W wr w' : World} {s s' : DS} {fp fx : Nat → Prop} (h : RPair F d x n m W wr s fp fx) (h1 : DskTo wr d fp n s' w') :
    ∃ fp', Dsk w' d fp' n s' ∧ XDk w' x fx n s ∧ (∀ k, fp' k → ¬ fx k) ∧ (∀ k, fp' k → F k ∨ W.heap.size ≤ k) ∧ Chg F W w' := by
  obtain ⟨hd, hx, hdj, hf, hg, hc, ho⟩ := h
  obtain ⟨fp', h2, h3, h4⟩ := h1
  have hxl : ∀ k, fx k → k < wr.heap.size := by
    obtain ⟨_, _, _, _, _, _, _, _, _, _, _, _, _, _, h9, _⟩ := hx
    exact h9
  refine ⟨fp', h2, hx.chg h3 (fun k hk hp => hdj k hp hk), fun k hk hq => ?_, fun k hk => ?_, hc.trans h3 (fun k hk hp => ?_)⟩
  · rcases h4 k hk with h9 | h9
    · exact hdj k h9 hq
    · have := hxl k hq; omega
  · rcases h4 k hk with h9 | h9
    · exact hf k h9
    · exact .inr (Nat.le_trans hc.size h9)
  · rcases hf k hp with h9 | h9
    · exact h9
    · omega
theorem rpair_two {F : Nat → Prop} {d x n : Nat} {m' : Int} {W w1 w2 : World} {s s' : DS} {fp fx : Nat → Prop} (hd : Dsk w1 d fp n s') (hx : XDk w1 x fx n s) (hdj : ∀ k, fp k → ¬ fx k) (hf : ∀ k, fp k → F k ∨ W.heap.size ≤ k) (hg : ∀ k, fx k → F k ∨ W.heap.size ≤ k)
    (hc : Chg F W w1) (h2 : XTo w1 x fx n s' w2) (hm : s'.ops ≤ m') : ∃ fx', RPair F d x n m' W w2 s' fp fx' := by
  obtain ⟨fx', h3, h4, h5⟩ := h2
  have hdl := hd.lt
  refine ⟨fx', hd.chg h4 (fun k hk hp => hdj k hk hp), h3, fun k hk hq => ?_, hf, fun k hk => ?_, hc.trans h4 (fun k hk hp => ?_), hm⟩
  · rcases h5 k hq with h9 | h9
    · exact hdj k hk h9
    · have := hdl k hk; omega
  · rcases h5 k hk with h9 | h9
    · exact hg k h9
    · exact .inr (Nat.le_trans hc.size h9)
  · rcases hg k hp with h9 | h9
    · exact h9
    · omega

/-- a row of pages that may be given to both -/
def RowOk (F : Nat → Prop) (W : World) (v : Value) (zs : List (Int × List UInt8)) : Prop :=
  ∃ a c, v = .slice a zs.length c ∧ IsPuts W F a zs ∧ (¬ zs.length = 0 → PutsOut F a) ∧ zs.length ≤ 410 ∧ (∀ q ∈ zs, q.2.length ≤ 600) ∧ ∀ q ∈ zs, (Lit.int .i64 q.1).wf = true

theorem IsPuts.nil {w : World} {fp : Nat → Prop} {a : Option Addr} : IsPuts w fp a [] := fun i hi => by simp at hi

theorem RowOk.at {F : Nat → Prop} {W wr : World} {v : Value} {zs : List (Int × List UInt8)} (h : RowOk F W v zs) (hc : Chg F W wr) {fp : Nat → Prop} (hf : ∀ k, fp k → F k ∨ W.heap.size ≤ k) :
    ∃ a c, v = .slice a zs.length c ∧ IsPuts wr fp a zs ∧ (¬ zs.length = 0 → PutsOut fp a) ∧ zs.length ≤ 410 ∧ (∀ q ∈ zs, q.2.length ≤ 600) ∧ ∀ q ∈ zs, (Lit.int .i64 q.1).wf = true := by
  obtain ⟨a, c, hv, hp, ho, hl, hb, hw⟩ := h
  by_cases h0 : zs.length = 0
  · obtain rfl : zs = [] := List.eq_nil_of_length_eq_zero h0
    exact ⟨a, c, hv, IsPuts.nil, fun h => absurd rfl h, hl, hb, hw⟩
  · have hpo := ho h0
    refine ⟨a, c, hv, hp.chg hpo hc hf, fun _ ad had hfp => ?_, hl, hb, hw⟩
    rcases hf _ hfp with h9 | h9
    · exact hpo ad had h9
    · obtain ⟨ab, ao, q, p, pc, he, _, k0, _⟩ := hp 0 (by omega)
      rw [he] at had
      injection had with had
      subst had
      have h8 : ab < W.heap.size := World.block_lt_of_cell? W ⟨ab, ao + 0 * 2, none⟩ k0
      have h7 : W.heap.size ≤ ab := h9
      omega

end Go.Proofs.Ytplahohlmiphoaa
