/- triadlaw2: Act.Do. -/
import Derived.Test.YtgikaocimconlaaLaw2b
namespace Go.Proofs.Ytgikaocimconlaa
open Go.RowKit
set_option linter.unusedVariables false

def rErr (n : Nat) (s : DS) (at_ : Int) : Int := if s.dead then 13 else if 0 ≤ at_ ∧ at_ < n then 0 else 1
def rRow (n : Nat) (s : DS) (at_ : Int) : List UInt8 := if s.dead then [] else if 0 ≤ at_ ∧ at_ < n then row s.now at_.toNat else []

theorem dRead_any (w : World) (d : Nat) (fp : Nat → Prop) (n : Nat) (s : DS) (at_ : Int) (h : Dsk w d fp n s) :
    Calls Try.prog 34 #[.pointer (some ⟨d, 0, none⟩), .int .i64 at_] w fun e w' => ∃ v, e = .returned (.tuple #[v, .int .i64 (rErr n s at_)]) ∧ Bs w' v (rRow n s at_) ∧ Below w.heap.size w w' := by
  by_cases hbad : s.dead = true ∨ ¬ (0 ≤ at_ ∧ at_ < n)
  · refine (dRead_err w d fp n s at_ h hbad).mono ?_
    rintro e w' ⟨rfl, rfl⟩
    refine ⟨.slice none 0 0, ?_, ?_, Below.refl _ _⟩
    · unfold rErr
      rcases hbad with hb | hb
      · rw [hb]; rfl
      · rw [if_neg hb]
    · have : rRow n s at_ = [] := by
        unfold rRow
        rcases hbad with hb | hb
        · rw [hb]; rfl
        · rw [if_neg hb]; split <;> rfl
      rw [this]
      exact Rd.nil _ _
  · have h1 : s.dead = false := by
      cases hs : s.dead with
      | false => rfl
      | true => exact (hbad (.inl hs)).elim
    have h2 : 0 ≤ at_ ∧ at_ < n := Classical.not_not.1 (fun hh => hbad (.inr hh))
    obtain ⟨k, rfl⟩ : ∃ k : Nat, at_ = (k : Int) := ⟨at_.toNat, by omega⟩
    have hk : k < n := by omega
    refine (dRead_ok w d fp n s k h h1 hk).mono ?_
    rintro e w' ⟨g, rfl, hg, hb, hw⟩
    have hl := row_length h.ok.now hk
    have hr : rRow n s (k : Int) = row s.now k := by unfold rRow; rw [h1, if_pos h2]; simp
    refine ⟨.slice (some ⟨g, 0, none⟩) 512 512, ?_, ?_, hw⟩
    · unfold rErr; rw [h1, if_pos h2]; rfl
    · rw [hr]
      exact Bs.blk hb hl.symm (by simp only [maxLen]; omega)

theorem xRead_any (w : World) (d : Nat) (fp : Nat → Prop) (n : Nat) (s : DS) (at_ : Int) (h : XDk w d fp n s) :
    Calls Try.prog 56 #[.pointer (some ⟨d, 0, none⟩), .int .i64 at_] w fun e w' => ∃ v, e = .returned (.tuple #[v, .int .i64 (rErr n s at_)]) ∧ Bs w' v (rRow n s at_) ∧ Below w.heap.size w w' := by
  by_cases hbad : s.dead = true ∨ ¬ (0 ≤ at_ ∧ at_ < n)
  · refine (xRead_err w d fp n s at_ h hbad).mono ?_
    rintro e w' ⟨rfl, rfl⟩
    refine ⟨.slice none 0 0, ?_, ?_, Below.refl _ _⟩
    · unfold rErr
      rcases hbad with hb | hb
      · rw [hb]; rfl
      · rw [if_neg hb]
    · have : rRow n s at_ = [] := by
        unfold rRow
        rcases hbad with hb | hb
        · rw [hb]; rfl
        · rw [if_neg hb]; split <;> rfl
      rw [this]
      exact Rd.nil _ _
  · have h1 : s.dead = false := by
      cases hs : s.dead with
      | false => rfl
      | true => exact (hbad (.inl hs)).elim
    have h2 : 0 ≤ at_ ∧ at_ < n := Classical.not_not.1 (fun hh => hbad (.inr hh))
    obtain ⟨k, rfl⟩ : ∃ k : Nat, at_ = (k : Int) := ⟨at_.toNat, by omega⟩
    have hk : k < n := by omega
    refine (xRead_ok w d fp n s k h h1 hk).mono ?_
    rintro e w' ⟨p, c, rfl, hb, hw⟩
    have hr : rRow n s (k : Int) = row s.now k := by unfold rRow; rw [h1, if_pos h2]; simp
    refine ⟨.slice p 512 c, ?_, ?_, hw⟩
    · unfold rErr; rw [h1, if_pos h2]; rfl
    · rw [hr]; exact hb

/-- the two disks beside one another -/
structure Pair (B d x n : Nat) (m : Int) (s : DS) (fp fx : Nat → Prop) (w : World) : Prop where
  hd : Dsk w d fp n s
  hx : XDk w x fx n s
  dj : ∀ k, fp k → ¬ fx k
  bd : ∀ k, fp k → B ≤ k
  bx : ∀ k, fx k → B ≤ k
  ops : s.ops ≤ m
  base : B ≤ w.heap.size

def PairTo (B d x n : Nat) (m : Int) (w0 w : World) : Prop := ∃ fp fx s, Pair B d x n m s fp fx w ∧ Below B w0 w

theorem Pair.new {B d x n : Nat} {m : Int} {s : DS} {fp fx : Nat → Prop} {w w' : World} (h : Pair B d x n m s fp fx w) (hb : Below w.heap.size w w') : Pair B d x n m s fp fx w' :=
  ⟨h.hd.chg (Chg.new hb NoFp) (fun _ _ h => h), h.hx.chg (Chg.new hb NoFp) (fun _ _ h => h), h.dj, h.bd, h.bx, h.ops, Nat.le_trans h.base hb.size⟩
theorem Pair.drew {B d x n : Nat} {m : Int} {s : DS} {fp fx : Nat → Prop} {w : World} (h : Pair B d x n m s fp fx w) (k : Nat) : Pair B d x n m s fp fx (w.drewN k) :=
  ⟨h.hd.chg (Chg.drewN NoFp w k) (fun _ _ h => h), h.hx.chg (Chg.drewN NoFp w k) (fun _ _ h => h), h.dj, h.bd, h.bx, h.ops, h.base⟩
/-- the same done at one, then at the other -/
theorem Pair.two {B d x n : Nat} {m m' : Int} {s s' : DS} {fp fx : Nat → Prop} {w w1 w2 : World} (h : Pair B d x n m s fp fx w) (h1 : DskTo w d fp n s' w1) (h2 : XTo w1 x fx n s' w2) (hm : s'.ops ≤ m') :
    PairTo B d x n m' w w2 := by
  obtain ⟨fp', hd, hc, hf⟩ := h1
  obtain ⟨fx', hx, hc2, hf2⟩ := h2
  have hlx := h.hx.lt
  have hld := hd.lt
  have hb := h.base
  have hsz := hc.size
  refine ⟨fp', fx', s', ⟨hd.chg hc2 (fun k hk hk2 => ?_), hx, fun k hk hk2 => ?_, fun k hk => ?_, fun k hk => ?_, hm, Nat.le_trans hb (Nat.le_trans hsz hc2.size)⟩, ?_⟩
  · rcases hf k hk with h3 | h3
    · exact h.dj k h3 hk2
    · have := hlx k hk2; omega
  · rcases hf2 k hk2 with h3 | h3
    · rcases hf k hk with h4 | h4
      · exact h.dj k h4 h3
      · have := hlx k h3; omega
    · have := hld k hk; omega
  · rcases hf k hk with h3 | h3
    · exact h.bd k h3
    · omega
  · rcases hf2 k hk with h3 | h3
    · exact h.bx k h3
    · omega
  · exact (hc.below h.bd hb).trans (hc2.below h.bx (Nat.le_trans hb hsz))
theorem Pair.one {B d x n : Nat} {m : Int} {s s' : DS} {fp fx : Nat → Prop} {w w1 : World} (h : Pair B d x n m s fp fx w) (h1 : DskTo w d fp n s' w1) : XDk w1 x fx n s := by
  obtain ⟨fp', hd, hc, hf⟩ := h1
  exact h.hx.chg hc (fun k hk hk2 => h.dj k hk2 hk)

theorem dWrite_ops (n : Nat) (s : DS) (at_ : Int) (l : List UInt8) : (dWrite n s at_ l).1.ops ≤ s.ops + 1 := by
  unfold dWrite
  split
  · simp only; omega
  · split
    · simp only; omega
    · rw [dStep_ops]; exact Int.le_refl _
theorem dSync_ops (s : DS) : (dSync s).1.ops ≤ s.ops + 1 := by
  unfold dSync
  split
  · simp only; omega
  · split
    · rw [dStep_ops]; exact Int.le_refl _
    · show (dStep s).ops ≤ _
      rw [dStep_ops]; exact Int.le_refl _

def Acting (w : World) (B : Nat) (q : ActD) (pb : Option Addr) (cb : Nat) (pk : Option Addr) (ck : Nat) : Prop :=
  Bs w (.slice pb q.b.length cb) q.b ∧ Rd w 1 (.slice pk q.keep.length ck) q.keep.length (q.keep.map Value.bool) ∧ FewD q ∧
  (∀ g, (Value.slice pb q.b.length cb).ownBlock = some g → 0 < q.b.length → g < B) ∧ (∀ g, (Value.slice pk q.keep.length ck).ownBlock = some g → 0 < q.keep.length → g < B)

theorem Acting.below {w w' : World} {B : Nat} {q : ActD} {pb : Option Addr} {cb : Nat} {pk : Option Addr} {ck : Nat} (h : Acting w B q pb cb pk ck) (hb : Below B w w') : Acting w' B q pb cb pk ck := by
  obtain ⟨h1, h2, h3, h4, h5⟩ := h
  have c := Chg.of_below hb (fp := fun q => B ≤ q) (fun _ _ h => h)
  exact ⟨Rd.chg h1 c (fun hp g hg hl h => by have := h4 g hg hp; have h6 : B ≤ g := h; omega), Rd.chg h2 c (fun hp g hg hl h => by have := h5 g hg hp; have h6 : B ≤ g := h; omega), h3, h4, h5⟩
end Go.Proofs.Ytgikaocimconlaa
