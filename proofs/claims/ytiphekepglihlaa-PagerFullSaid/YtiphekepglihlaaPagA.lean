/- package pager: a pager as one thing: its cells, its disk, its changed pages. -/
import Derived.Test.YtiphekepglihlaaPagR
namespace Go.Proofs.Ytiphekepglihlaa
open Go.RowKit Go.Maps
set_option linter.unusedVariables false

/-- a pager, over the blocks F -/
def PgA (w : World) (p d : Nat) (F : Nat → Prop) (n : Nat) (s : DS) (was now : HD) (op : Bool) (ch : Int → Option (List UInt8)) (N : Nat) : Prop :=
  ∃ (fp ok : Nat → Prop) (b : Nat) (D : DataW Unit), PgB w p d fp n s was now op (.map (some b)) (fgt p) ∧ w.ownsMap Try.prog 3 pageElem b N D ∧ Chd w D ok ch ∧ ¬ fp b ∧ b ≠ p ∧
    (∀ g, ok g → g ≠ b ∧ g ≠ p ∧ ¬ fp g ∧ g < w.heap.size) ∧ ∀ k, F k ↔ (fp k ∨ k = p ∨ k = b ∨ ok k)

theorem PgA.lt {w : World} {p d : Nat} {F : Nat → Prop} {n : Nat} {s : DS} {was now : HD} {op : Bool} {ch : Int → Option (List UInt8)} {N : Nat} (h : PgA w p d F n s was now op ch N) : ∀ k, F k → k < w.heap.size := fun k hk => by
  obtain ⟨fp, ok, b, D, h1, h2, h3, h4, h5, h6, h7⟩ := h
  rcases (h7 k).1 hk with hk | rfl | rfl | hk
  · exact h1.dsk.lt k hk
  · exact h1.blk.lt
  · obtain ⟨es, cl, h8, _⟩ := h2
    exact (Array.getElem?_eq_some_iff.1 h8).1
  · exact (h6 k hk).2.2.2
theorem PgA.chg {w w' : World} {p d : Nat} {F fq : Nat → Prop} {n : Nat} {s : DS} {was now : HD} {op : Bool} {ch : Int → Option (List UInt8)} {N : Nat} (h : PgA w p d F n s was now op ch N) (hc : Chg fq w w') (hn : ∀ k, F k → ¬ fq k) : PgA w' p d F n s was now op ch N := by
  obtain ⟨fp, ok, b, D, h1, h2, h3, h4, h5, h6, h7⟩ := h
  have e1 : ∀ k, fp k → ¬ fq k := fun k hk => hn k ((h7 k).2 (.inl hk))
  have e2 : ¬ fq p := hn p ((h7 p).2 (.inr (.inl rfl)))
  have e3 : ¬ fq b := hn b ((h7 b).2 (.inr (.inr (.inl rfl))))
  have e4 : ∀ g, ok g → ¬ fq g := fun g hg => hn g ((h7 g).2 (.inr (.inr (.inr hg))))
  refine ⟨fp, ok, b, D, ⟨h1.dsk.chg hc e1, h1.blk.chg hc e2, h1.was, h1.now, h1.out⟩, ?_, h3.chg hc e4, h4, h5, fun g hg => ⟨(h6 g hg).1, (h6 g hg).2.1, (h6 g hg).2.2.1, Nat.lt_of_lt_of_le (h6 g hg).2.2.2 hc.size⟩, h7⟩
  obtain ⟨es, cl, h8, h9⟩ := h2
  exact ⟨es, cl, hc.heap h8 e3, h9⟩

/-- write, on the whole -/
theorem PgA.write {w : World} {p d : Nat} {F : Nat → Prop} {n : Nat} {s : DS} {was now : HD} {op : Bool} {ch : Int → Option (List UInt8)} {N : Nat} (h : PgA w p d F n s was now op ch N) (at_ : Int) (v : Value) (l : List UInt8) (hN : N ≤ 1000000) (hv : Bs w v l) (hl : l.length ≤ 504) (hat : (Lit.int .i64 at_).wf = true) :
    Calls Try.prog 51 #[.pointer (some ⟨p, 0, none⟩), .int .i64 at_, v] w fun e w' => e = .returned (.tuple #[]) ∧ Chg F w w' ∧ ∃ F', PgA w' p d F' n s was now op (fun q => if q = at_ then some (pad504 l) else ch q) (N + 1) ∧ ∀ k, F' k → F k ∨ w.heap.size ≤ k := by
  have hlt := h.lt
  obtain ⟨fp, ok, b, D, h1, h2, h3, h4, h5, h6, h7⟩ := h
  refine (write_any w p d fp n s was now op b N D (fgt p) ok ch at_ v l h1 h2 h3 h4 h5 (fun g hg => ⟨(h6 g hg).1, (h6 g hg).2.2.2⟩) hN hv hl hat).mono ?_
  rintro e w' ⟨rfl, hc, hb, D', hm, hd⟩
  refine ⟨rfl, hc.mono (fun k _ e => (h7 k).2 (.inr (.inr (.inl e)))), fun k => fp k ∨ k = p ∨ k = b ∨ (ok k ∨ (w.heap.size ≤ k ∧ k < w'.heap.size)), ⟨fp, fun k => ok k ∨ (w.heap.size ≤ k ∧ k < w'.heap.size), b, D', hb, hm, ?_, h4, h5, ?_, fun k => Iff.rfl⟩, ?_⟩
  · intro q
    have h8 := hd q
    split at h8
    · exact h8
    · obtain ⟨q1, g, q2, q3, q4, q5⟩ := h8
      exact ⟨q1, g, q2, q3, q4, q5.imp id (fun h => ⟨h, q3.lt⟩)⟩
  · rintro g (hg | ⟨hg, hg2⟩)
    · exact ⟨(h6 g hg).1, (h6 g hg).2.1, (h6 g hg).2.2.1, Nat.lt_of_lt_of_le (h6 g hg).2.2.2 hc.size⟩
    · have l1 := hlt b ((h7 b).2 (.inr (.inr (.inl rfl))))
      have l2 := h1.blk.lt
      exact ⟨by omega, by omega, fun h => by have := h1.dsk.lt g h; omega, hg2⟩
  · rintro k (hk | hk | hk | (hk | hk))
    · exact .inl ((h7 k).2 (.inl hk))
    · exact .inl ((h7 k).2 (.inr (.inl hk)))
    · exact .inl ((h7 k).2 (.inr (.inr (.inl hk))))
    · exact .inl ((h7 k).2 (.inr (.inr (.inr hk))))
    · exact .inr hk.1
end Go.Proofs.Ytiphekepglihlaa
