/- package pager: Open, Begin, SetRoot, Put on the whole. -/
import Derived.Test.YtiphekepglihlaaPagA
namespace Go.Proofs.Ytiphekepglihlaa
open Go.RowKit Go.Maps
set_option linter.unusedVariables false

theorem openA (w : World) (d : Nat) (fp : Nat → Prop) (n : Nat) (s : DS) (h : Dsk w d fp n s) (hn : 403 ≤ n) (ho : s.ops + 3000 ≤ 1000000) (hr : (recov n s).2.2 = 0) (hdead : (recov n s).1.dead = false) :
    Calls Try.prog 17 #[.pointer (some ⟨d, 0, none⟩)] w fun e w' => ∃ p F, e = .returned (.tuple #[.pointer (some ⟨p, 0, none⟩), .int .i64 0]) ∧
      PgA w' p d F n (recov n s).1 (hdP (row (recov n s).1.now 401)) (hdP (row (recov n s).1.now 401)) false (fun _ => none) 0 ∧ Chg fp w w' ∧ w.heap.size ≤ p ∧ ∀ k, F k → fp k ∨ w.heap.size ≤ k := by
  refine (open_any w d fp n s h hn ho hr hdead).mono ?_
  rintro e w' ⟨p, m, fp', rfl, hd, hb, hm, n1, n2, n3, n4, n5, hc, hf⟩
  have hu := hdP_length (row_length hd.ok.now (show 401 < n by omega))
  refine ⟨p, fun k => fp' k ∨ k = p ∨ k = m ∨ False, rfl, ⟨fp', fun _ => False, m, .map [], ⟨hd, hb, hu, hu, n1⟩, ⟨#[], 0, hm, ⟨by simp, Go.MapKept.stamped_empty 0, by simp⟩, Nat.le_refl _, rfl⟩, Chd.nil _ _, n2, fun e => n3 e.symm, fun g hg => hg.elim, fun k => Iff.rfl⟩, hc, n4, ?_⟩
  rintro k (hk | rfl | rfl | hk)
  · exact hf k hk
  · exact .inr n4
  · exact .inr n5
  · exact hk.elim

theorem beginA {w : World} {p d : Nat} {F : Nat → Prop} {n : Nat} {s : DS} {was now : HD} {op : Bool} {ch : Int → Option (List UInt8)} {N : Nat} (h : PgA w p d F n s was now op ch N) :
    Calls Try.prog 19 #[.pointer (some ⟨p, 0, none⟩)] w fun e w' => e = .returned (.int .i64 (if op then 12 else 0)) ∧ Chg F w w' ∧ PgA w' p d F n s was now true ch N := by
  obtain ⟨fp, ok, b, D, h1, h2, h3, h4, h5, h6, h7⟩ := h
  refine (begin_any w p _ _ _ was now op h1.blk h1.was h1.now).mono ?_
  rintro e w' ⟨rfl, hc, hb⟩
  have e3 : ¬ (b = p) := h5
  refine ⟨rfl, hc.mono (fun k _ e => (h7 k).2 (.inr (.inl e))), fp, ok, b, D, ⟨h1.dsk.chg hc (fun k hk e => h1.out (e ▸ hk)), hb, h1.was, h1.now, h1.out⟩, ?_, h3.chg hc (fun g hg => (h6 g hg).2.1), h4, h5, fun g hg => ⟨(h6 g hg).1, (h6 g hg).2.1, (h6 g hg).2.2.1, Nat.lt_of_lt_of_le (h6 g hg).2.2.2 hc.size⟩, h7⟩
  obtain ⟨es, cl, h8, h9⟩ := h2
  exact ⟨es, cl, hc.heap h8 e3, h9⟩
end Go.Proofs.Ytiphekepglihlaa
