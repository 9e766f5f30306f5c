/- triadlaw4: both, in memory that is newer than the arguments'. -/
import Derived.Test.YtiphekepglihlaaFew4
namespace Go.Proofs.Ytiphekepglihlaa
open Go.RowKit Go.Maps
set_option linter.unusedVariables false

theorem IsActs4.new {w w' : World} {a : Option Addr} {len cap : Nat} {z : List Act4} (h : IsActs4 w a len cap z) (hb : Below w.heap.size w w') : IsActs4 w' a len cap z :=
  ⟨h.1, h.2.1, fun i hi => by
    obtain ⟨ab, ao, d, h1, h2, h3⟩ := h.2.2 i hi
    obtain ⟨pb, cb, k0, k1, k2, hbs, _, hwf⟩ := h3.keep hb
    obtain ⟨_, _, _, _, _, _, hwf1, hwf2⟩ := h3
    exact ⟨ab, ao, d, h1, h2, pb, cb, k0, k1, k2, hbs, hwf1, hwf2⟩⟩
theorem actP_in {n : Nat} {m at_ num : Int} {b : List UInt8} {S T : AS} {op : Bool} (h1 : 1 ≤ m) (h9 : m ≤ 9) : (actP n m at_ num b S T op).1 = S ∧ (actP n m at_ num b S T op).2.2 = op := by
  unfold actP
  rw [if_neg (by omega)]
  split
  · exact ⟨rfl, rfl⟩
  · split
    · exact ⟨rfl, rfl⟩
    · split
      · exact ⟨rfl, rfl⟩
      · rw [if_pos (by omega)]
        exact ⟨rfl, rfl⟩
/-- both, in memory newer than W's -/
structure Apart (W w : World) (p d x n : Nat) (F G : Nat → Prop) (s : DS) (S T : AS) (op : Bool) (N : Nat) (S2 T2 : AS) (op2 : Bool) (M : Nat) : Prop where
  du : Duo w p d x n F G s S T op N S2 T2 op2 M
  below : Below W.heap.size W w
  new : ∀ k, F k ∨ G k → W.heap.size ≤ k
theorem Apart.of {W w : World} {p d x n : Nat} {F G : Nat → Prop} {s : DS} {S T : AS} {op : Bool} {N : Nat} {S2 T2 : AS} {op2 : Bool} {M : Nat} (h : Duo w p d x n F G s S T op N S2 T2 op2 M) (hb : Below W.heap.size W w) (hn : ∀ k, F k ∨ G k → W.heap.size ≤ k) : Apart W w p d x n F G s S T op N S2 T2 op2 M := ⟨h, hb, hn⟩
theorem Apart.to {W w w' : World} {p d x n : Nat} {F G : Nat → Prop} {s s' : DS} {S T S' T' : AS} {op op' : Bool} {N N' : Nat} {S2 T2 S3 T3 : AS} {op2 op3 : Bool} {M M' : Nat} (h : Apart W w p d x n F G s S T op N S2 T2 op2 M) (ht : DuoTo w p d x n F G s' S' T' op' N' S3 T3 op3 M' w') :
    ∃ F' G' N'', Apart W w' p d x n F' G' s' S' T' op' N'' S3 T3 op3 M' ∧ N'' ≤ N' := by
  obtain ⟨F', G', N'', h1, h2, h3, h4⟩ := ht
  exact ⟨F', G', N'', ⟨h1, h.below.trans (h3.below h.new h.below.size), fun k hk => (h4 k hk).elim (h.new k) (fun h5 => Nat.le_trans h.below.size h5)⟩, h2⟩
theorem Apart.more {W w : World} {p d x n : Nat} {F G : Nat → Prop} {s : DS} {S T : AS} {op : Bool} {N : Nat} {S2 T2 : AS} {op2 : Bool} {M K : Nat} (h : Apart W w p d x n F G s S T op N S2 T2 op2 M) (hk : M ≤ K) : Apart W w p d x n F G s S T op N S2 T2 op2 K :=
  ⟨⟨h.du.pg, h.du.rf.more hk, h.du.dis⟩, h.below, h.new⟩
theorem Apart.new' {W w w' : World} {p d x n : Nat} {F G : Nat → Prop} {s : DS} {S T : AS} {op : Bool} {N : Nat} {S2 T2 : AS} {op2 : Bool} {M : Nat} (h : Apart W w p d x n F G s S T op N S2 T2 op2 M) (hb : Below w.heap.size w w') : Apart W w' p d x n F G s S T op N S2 T2 op2 M :=
  ⟨h.du.new' hb, h.below.trans (hb.mono h.below.size), h.new⟩
theorem Apart.beside {W w w' : World} {fq : Nat → Prop} {p d x n : Nat} {F G : Nat → Prop} {s : DS} {S T : AS} {op : Bool} {N : Nat} {S2 T2 : AS} {op2 : Bool} {M : Nat} (h : Apart W w p d x n F G s S T op N S2 T2 op2 M) (hc : Chg fq w w') (hd : ∀ k, F k ∨ G k → ¬ fq k) (hW : ∀ k, fq k → W.heap.size ≤ k) : Apart W w' p d x n F G s S T op N S2 T2 op2 M :=
  ⟨⟨h.du.pg.chg hc (fun k hk => hd k (.inl hk)), h.du.rf.chg hc (fun k hk => hd k (.inr hk)), h.du.dis⟩, h.below.trans (hc.below hW h.below.size), h.new⟩
/-- a step of the pager's beside another of the document's -/
theorem Apart.other {W w w' : World} {p d x y n : Nat} {F G H : Nat → Prop} {s s' : DS} {S T S' T' : AS} {op op' : Bool} {N N' : Nat} {S2 T2 S3 T3 : AS} {op2 op3 : Bool} {M M' : Nat} (h : Apart W w p d x n F G s S T op N S2 T2 op2 M) (hH : ∀ k, H k → ¬ G k) (hW : ∀ k, H k → W.heap.size ≤ k) (ht : DuoTo w p d y n F H s' S' T' op' N' S3 T3 op3 M' w') :
    ∃ F' N'', Apart W w' p d x n F' G s' S' T' op' N'' S2 T2 op2 M ∧ N'' ≤ N' := by
  obtain ⟨F', G', N'', h1, h2, h3, h4⟩ := ht
  have hdis : ∀ k, G k → ¬ (F k ∨ H k) := fun k hk hf => hf.elim (fun hf => h.du.dis k hf hk) (fun hf => hH k hf hk)
  refine ⟨F', N'', ⟨⟨h1.pg, h.du.rf.chg h3 hdis, fun k hk hg => ?_⟩, h.below.trans (h3.below (fun k hk => hk.elim (fun hf => h.new k (.inl hf)) (hW k)) h.below.size), fun k hk => ?_⟩, h2⟩
  · rcases h4 k (.inl hk) with h5 | h5
    · exact hdis k hg h5
    · have := h.du.rf.lt k hg; omega
  · rcases hk with hk | hk
    · rcases h4 k (.inl hk) with h5 | h5
      · exact h5.elim (fun hf => h.new k (.inl hf)) (hW k)
      · exact Nat.le_trans h.below.size h5
    · exact h.new k (.inr hk)
end Go.Proofs.Ytiphekepglihlaa
