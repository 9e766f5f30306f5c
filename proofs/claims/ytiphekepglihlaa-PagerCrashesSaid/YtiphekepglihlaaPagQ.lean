/- package pager: Commit without a transaction; a pager above a world's memory. -/
import Derived.Test.YtiphekepglihlaaPagK
import Derived.Defers
namespace Go.Proofs.Ytiphekepglihlaa
open Go.RowKit Go.Maps
set_option linter.unusedVariables false

theorem PgA.commitShut {w : World} {p d : Nat} {F : Nat → Prop} {n : Nat} {s : DS} {was now : HD} {ch : Int → Option (List UInt8)} {N : Nat} (h : PgA w p d F n s was now false ch N) :
    Calls Try.prog 24 #[.pointer (some ⟨p, 0, none⟩)] w fun e w' => e = .returned (.int .i64 12) ∧ Below w.heap.size w w' := by
  obtain ⟨c1, c379, c380, c381, g379, g380, g381⟩ := h.cells
  have hp := h.lt p h.own.1
  clear h c379 c380 c381 g379 g380 g381
  go_enter_defers Try.func24, Try.ntmps24
  go_wp2_with fail
  exact ⟨_, results_tmp rfl _ _ _, rfl, (Below.refl _ _).alloc (Nat.le_refl _) _⟩

theorem PgV.commitShut {w : World} {p d : Nat} {F : Nat → Prop} {n : Nat} {s : DS} {S T : AS} {N : Nat} (h : PgV w p d F n s S T false N) :
    Calls Try.prog 24 #[.pointer (some ⟨p, 0, none⟩)] w fun e w' => e = .returned (.int .i64 12) ∧ Below w.heap.size w w' := by
  obtain ⟨was, now, ch, h1, h2, h3, h4, h5⟩ := h
  exact h1.commitShut

/-- a pager in memory that is newer than W's -/
def PgW (W w : World) (p d n : Nat) (s : DS) (S T : AS) (op : Bool) (N : Nat) : Prop :=
  ∃ F N', PgV w p d F n s S T op N' ∧ N' ≤ N ∧ Below W.heap.size W w ∧ ∀ k, F k → W.heap.size ≤ k
theorem PgW.below {W w : World} {p d n : Nat} {s : DS} {S T : AS} {op : Bool} {N : Nat} (h : PgW W w p d n s S T op N) : Below W.heap.size W w := by
  obtain ⟨F, N', h1, h2, h3, h4⟩ := h; exact h3
theorem PgW.new' {W w w' : World} {p d n : Nat} {s : DS} {S T : AS} {op : Bool} {N : Nat} (h : PgW W w p d n s S T op N) (hb : Below w.heap.size w w') : PgW W w' p d n s S T op N := by
  obtain ⟨F, N', h1, h2, h3, h4⟩ := h
  exact ⟨F, N', h1.new' hb, h2, h3.trans (hb.mono h3.size), h4⟩
theorem PgW.of {W w w' : World} {p d n : Nat} {F : Nat → Prop} {s : DS} {S T : AS} {op : Bool} {N : Nat} (hb : Below W.heap.size W w) (hF : ∀ k, F k → W.heap.size ≤ k) (h : PgTo w p d F n s S T op N w') : PgW W w' p d n s S T op (N + 1) := by
  obtain ⟨F', N', h1, h2, h3, h4⟩ := h
  exact ⟨F', N', h1, h2, hb.trans (h3.below hF hb.size), fun k hk => (h4 k hk).elim (hF k) (fun h => Nat.le_trans hb.size h)⟩
theorem PgW.begin {W w : World} {p d n : Nat} {s : DS} {S T : AS} {op : Bool} {N : Nat} (h : PgW W w p d n s S T op N) :
    Calls Try.prog 19 #[.pointer (some ⟨p, 0, none⟩)] w fun e w' => e = .returned (.int .i64 (if op then 12 else 0)) ∧ PgW W w' p d n s S T true (N + 1) := by
  obtain ⟨F, N', h1, h2, h3, h4⟩ := h
  refine h1.begin.mono ?_
  rintro e w' ⟨rfl, h⟩
  obtain ⟨F9, N9, a, b, c, dd⟩ := PgW.of h3 h4 h
  exact ⟨rfl, F9, N9, a, by omega, c, dd⟩
theorem PgW.new {W w : World} {p d n : Nat} {s : DS} {S T : AS} {op : Bool} {N : Nat} (h : PgW W w p d n s S T op N) (hN : N ≤ 1000000) :
    Calls Try.prog 20 #[.pointer (some ⟨p, 0, none⟩)] w fun e w' => e = .returned (.tuple #[.int .i64 (newO n op T).1, .int .i64 (newO n op T).2.1]) ∧ PgW W w' p d n s S (newO n op T).2.2 op (N + 1) := by
  obtain ⟨F, N', h1, h2, h3, h4⟩ := h
  refine (h1.new (by omega)).mono ?_
  rintro e w' ⟨rfl, h⟩
  obtain ⟨F9, N9, a, b, c, dd⟩ := PgW.of h3 h4 h
  exact ⟨rfl, F9, N9, a, by omega, c, dd⟩
theorem PgW.drop {W w : World} {p d n : Nat} {s : DS} {S T : AS} {op : Bool} {N : Nat} (h : PgW W w p d n s S T op N) (at_ : Int) (hN : N ≤ 1000000) :
    Calls Try.prog 21 #[.pointer (some ⟨p, 0, none⟩), .int .i64 at_] w fun e w' => e = .returned (.int .i64 (dropO op T at_).1) ∧ PgW W w' p d n s S (dropO op T at_).2 op (N + 1) := by
  obtain ⟨F, N', h1, h2, h3, h4⟩ := h
  refine (h1.drop at_ (by omega)).mono ?_
  rintro e w' ⟨rfl, h⟩
  obtain ⟨F9, N9, a, b, c, dd⟩ := PgW.of h3 h4 h
  exact ⟨rfl, F9, N9, a, by omega, c, dd⟩
theorem PgW.put {W w : World} {p d n : Nat} {s : DS} {S T : AS} {op : Bool} {N : Nat} (h : PgW W w p d n s S T op N) (at_ : Int) (v : Value) (l : List UInt8) (hv : Bs w v l) (hl : l.length ≤ 1000000) (hN : N ≤ 1000000) :
    Calls Try.prog 22 #[.pointer (some ⟨p, 0, none⟩), .int .i64 at_, v] w fun e w' => e = .returned (.int .i64 (putO op T at_ l).1) ∧ PgW W w' p d n s S (putO op T at_ l).2 op (N + 1) := by
  obtain ⟨F, N', h1, h2, h3, h4⟩ := h
  refine (h1.put at_ v l hv hl (by omega)).mono ?_
  rintro e w' ⟨rfl, h⟩
  obtain ⟨F9, N9, a, b, c, dd⟩ := PgW.of h3 h4 h
  exact ⟨rfl, F9, N9, a, by omega, c, dd⟩
theorem PgW.setRoot {W w : World} {p d n : Nat} {s : DS} {S T : AS} {op : Bool} {N : Nat} (h : PgW W w p d n s S T op N) (at_ : Int) (hat : at_ ≤ 9223372036854775807) :
    Calls Try.prog 23 #[.pointer (some ⟨p, 0, none⟩), .int .i64 at_] w fun e w' => e = .returned (.int .i64 (rootO op T at_).1) ∧ PgW W w' p d n s S (rootO op T at_).2 op (N + 1) := by
  obtain ⟨F, N', h1, h2, h3, h4⟩ := h
  refine (h1.setRoot at_ hat).mono ?_
  rintro e w' ⟨rfl, h⟩
  obtain ⟨F9, N9, a, b, c, dd⟩ := PgW.of h3 h4 h
  exact ⟨rfl, F9, N9, a, by omega, c, dd⟩
theorem PgW.abort {W w : World} {p d n : Nat} {s : DS} {S T : AS} {op : Bool} {N : Nat} (h : PgW W w p d n s S T op N) :
    Calls Try.prog 25 #[.pointer (some ⟨p, 0, none⟩)] w fun e w' => e = .returned (.tuple #[]) ∧ PgW W w' p d n s S S false (N + 1) := by
  obtain ⟨F, N', h1, h2, h3, h4⟩ := h
  refine h1.abort.mono ?_
  rintro e w' ⟨rfl, h⟩
  obtain ⟨F9, N9, a, b, c, dd⟩ := PgW.of h3 h4 h
  exact ⟨rfl, F9, N9, a, by omega, c, dd⟩
theorem PgW.get {W w : World} {p d n : Nat} {s : DS} {S T : AS} {op : Bool} {N : Nat} (h : PgW W w p d n s S T op N) (at_ : Int) :
    Calls Try.prog 26 #[.pointer (some ⟨p, 0, none⟩), .int .i64 at_] w fun e w' => ∃ q m c, e = .returned (.tuple #[.slice q m c, .int .i64 (getA T at_).2]) ∧ m = (getA T at_).1.length ∧
      Bs w' (.slice q m c) (getA T at_).1 ∧ PgW W w' p d n s S T op N ∧ ∀ g, Value.ownBlock (.slice q m c) = some g → w.heap.size ≤ g := by
  have h' := h
  obtain ⟨F, N', h1, h2, h3, h4⟩ := h
  refine (h1.get at_).mono ?_
  rintro e w' ⟨q, m, c, rfl, hm, hb, hbe, hgg⟩
  exact ⟨q, m, c, rfl, hm, hb, h'.new' hbe, hgg⟩
theorem PgW.free {W w : World} {p d n : Nat} {s : DS} {S T : AS} {op : Bool} {N : Nat} (h : PgW W w p d n s S T op N) :
    Calls Try.prog 27 #[.pointer (some ⟨p, 0, none⟩)] w fun e w' => e = .returned (.int .i64 (frees T (n - 402))) ∧ w' = w := by
  obtain ⟨F, N', h1, h2, h3, h4⟩ := h
  exact h1.free
theorem PgW.root {W w : World} {p d n : Nat} {s : DS} {S T : AS} {op : Bool} {N : Nat} (h : PgW W w p d n s S T op N) :
    Calls Try.prog 37 #[.pointer (some ⟨p, 0, none⟩)] w fun e w' => e = .returned (.int .i64 T.root) ∧ w' = w := by
  obtain ⟨F, N', h1, h2, h3, h4⟩ := h
  exact h1.root
theorem PgW.commitShut {W w : World} {p d n : Nat} {s : DS} {S T : AS} {N : Nat} (h : PgW W w p d n s S T false N) :
    Calls Try.prog 24 #[.pointer (some ⟨p, 0, none⟩)] w fun e w' => e = .returned (.int .i64 12) ∧ PgW W w' p d n s S T false N := by
  have h' := h
  obtain ⟨F, N', h1, h2, h3, h4⟩ := h
  refine h1.commitShut.mono ?_
  rintro e w' ⟨rfl, hb⟩
  exact ⟨rfl, h'.new' hb⟩
/-- a new disk's pages -/
theorem openW {W w : World} (hW : Below W.heap.size W w) (n : Nat) (h0 : 403 ≤ n) (h1 : n ≤ 3000) (d : Nat) (fp : Nat → Prop) (hd : Dsk w d fp n (dNew n)) (hfp : ∀ k, fp k → W.heap.size ≤ k) :
    Calls Try.prog 17 #[.pointer (some ⟨d, 0, none⟩)] w fun e w' => ∃ p, e = .returned (.tuple #[.pointer (some ⟨p, 0, none⟩), .int .i64 0]) ∧ PgW W w' p d n (dNew n) as0 as0 false 0 := by
  refine (openNew w n h0 h1 d fp hd).mono ?_
  rintro e w' ⟨p, F, rfl, hv, hc, hp, hF⟩
  exact ⟨p, rfl, F, 0, hv, Nat.le_refl _, hW.trans (hc.below hfp hW.size), fun k hk => (hF k hk).elim (hfp k) (fun h => Nat.le_trans hW.size h)⟩
end Go.Proofs.Ytiphekepglihlaa
