/- package pager: marks on the whole. -/
import Derived.Test.YtiphekepglihlaaPagF
namespace Go.Proofs.Ytiphekepglihlaa
open Go.RowKit Go.Maps
set_option linter.unusedVariables false

/-- a head with a page's mark turned -/
def turnH (h : HD) (k : Nat) (is : Bool) : HD := { h with used := h.used.set (k / 8) (turnB (h.used.getD (k / 8) 0) k is) }

theorem PgA.mark {w : World} {p d : Nat} {F : Nat → Prop} {n : Nat} {s : DS} {was now : HD} {op : Bool} {ch : Int → Option (List UInt8)} {N : Nat} (h : PgA w p d F n s was now op ch N) (k : Nat) (is : Bool) (hk : k < 3000) :
    Calls Try.prog 50 #[.pointer (some ⟨p, 379, none⟩), .int .i64 k, .bool is] w fun e w' => e = .returned (.tuple #[]) ∧ Chg F w w' ∧ PgA w' p d F n s was (turnH now k is) op ch N := by
  have hF := h.own.1
  obtain ⟨fp, ok, b, D, h1, h2, h3, h4, h5, h6, h7⟩ := h
  refine (mark_any w p 379 _ _ now k is h1.blk h1.head hk).mono ?_
  rintro e w' ⟨rfl, hc, hb⟩
  have hb' : Blk w' p (pgC (.pointer (some ⟨d, 0, none⟩)) was (turnH now k is) op (.map (some b)) (fgt p)) 82 := by
    rw [Nat.add_assoc, pgC_setAt (j := 3 + k / 8) (h := turnH now k is) h1.was h1.now (by omega) (hdC_setUsed _ _ _)] at hb
    exact hb
  refine ⟨rfl, hc.mono (fun q _ e => e ▸ hF), fp, ok, b, D, ⟨h1.dsk.chg hc (fun q hq e => h1.out (e ▸ hq)), hb', h1.was, by simp [turnH, h1.now], h1.out⟩, ?_, h3.chg hc (fun g hg => (h6 g hg).2.1), h4, h5, fun g hg => ⟨(h6 g hg).1, (h6 g hg).2.1, (h6 g hg).2.2.1, Nat.lt_of_lt_of_le (h6 g hg).2.2.2 hc.size⟩, h7⟩
  obtain ⟨es, cl, h8, h9⟩ := h2
  exact ⟨es, cl, hc.heap h8 h5, h9⟩
end Go.Proofs.Ytiphekepglihlaa
