/- triadlaw4: a pager and the document's, side by side. -/
import Derived.Test.YtiphekepglihlaaKept
import Derived.Test.YtiphekepglihlaaRfA
import Derived.Test.YtiphekepglihlaaActs4
namespace Go.Proofs.Ytiphekepglihlaa
open Go.RowKit Go.Maps
set_option linter.unusedVariables false

def XPg (w : World) (x : Nat) (G : Nat → Prop) (n : Nat) (S T : AS) (op : Bool) (M : Nat) : Prop := match op with
  | true => XOp w x G n S T M
  | false => XCl w x G n S M ∧ T = S
def XTo (w : World) (x : Nat) (G : Nat → Prop) (n : Nat) (S T : AS) (op : Bool) (M : Nat) (w' : World) : Prop := ∃ G', XPg w' x G' n S T op M ∧ Chg G w w' ∧ ∀ k, G' k → G k ∨ w.heap.size ≤ k
theorem XPg.lt {w : World} {x : Nat} {G : Nat → Prop} {n : Nat} {S T : AS} {op : Bool} {M : Nat} (h : XPg w x G n S T op M) : ∀ k, G k → k < w.heap.size := by
  cases op
  · exact h.1.lt
  · exact XOp.lt h
theorem XPg.chg {w w' : World} {x : Nat} {G fq : Nat → Prop} {n : Nat} {S T : AS} {op : Bool} {M : Nat} (h : XPg w x G n S T op M) (hc : Chg fq w w') (hn : ∀ k, G k → ¬ fq k) : XPg w' x G n S T op M := by
  cases op
  · exact ⟨h.1.chg hc hn, h.2⟩
  · exact XOp.chg h hc hn
theorem XPg.pages {w : World} {x : Nat} {G : Nat → Prop} {n : Nat} {S T : AS} {op : Bool} {M : Nat} (h : XPg w x G n S T op M) : w.cell? ⟨x, 0, none⟩ = some (.int .i64 ((n : Int) - 401)) := by
  cases op
  · exact h.1.cells.1
  · exact (XOp.cells h).1
theorem XPg.seen {w : World} {x : Nat} {G : Nat → Prop} {n : Nat} {S T : AS} {op : Bool} {M : Nat} (h : XPg w x G n S T op M) : Seen4 w x n T M := by
  cases op
  · have h1 := h.1.seen
    rw [← h.2] at h1
    exact h1
  · exact XOp.seen h
theorem XPg.begin {w : World} {x : Nat} {G : Nat → Prop} {n : Nat} {S T : AS} {op : Bool} {M : Nat} (h : XPg w x G n S T op M) (hM : M ≤ 1000000) :
    Calls Try.prog 33 #[.pointer (some ⟨x, 0, none⟩)] w fun e w' => e = .returned (.int .i64 (if op then 12 else 0)) ∧ XTo w x G n S T true (M + 3000) w' := by
  cases op
  · refine (h.1.begin hM).mono ?_
    rintro e w' ⟨rfl, G', h1, h2, h3⟩
    obtain ⟨_, rfl⟩ := h
    exact ⟨rfl, G', h1, h2, h3⟩
  · refine (XOp.begin h).mono ?_
    rintro e w' ⟨rfl, rfl⟩
    obtain ⟨b, gv, D, b2, gv2, D2, h1, h2, h3, h4, h5, h6⟩ := h
    exact ⟨rfl, G, ⟨b, gv, D, b2, gv2, D2, h1, h2.mono (by omega), h3.mono (by omega), h4.mono (by omega), h5.mono (by omega), h6⟩, Chg.refl _ _, fun k h => .inl h⟩
theorem XPg.more {w : World} {x : Nat} {G : Nat → Prop} {n : Nat} {S T : AS} {op : Bool} {M K : Nat} (h : XPg w x G n S T op M) (hk : M ≤ K) : XPg w x G n S T op K := by
  cases op
  · obtain ⟨⟨b, gv, D, c5, c6, c7, c8, h1, h2, h3, h4⟩, rfl⟩ := h
    exact ⟨⟨b, gv, D, c5, c6, c7, c8, h1, h2.mono hk, h3.mono hk, h4⟩, rfl⟩
  · obtain ⟨b, gv, D, b2, gv2, D2, h1, h2, h3, h4, h5, h6⟩ := h
    exact ⟨b, gv, D, b2, gv2, D2, h1, h2.mono hk, h3.mono hk, h4.mono hk, h5.mono hk, h6⟩
theorem XPg.same {w : World} {x : Nat} {G : Nat → Prop} {n : Nat} {S T : AS} {op : Bool} {M K : Nat} (h : XPg w x G n S T op M) (hk : M ≤ K) : XTo w x G n S T op K w := ⟨G, h.more hk, Chg.refl _ _, fun k h => .inl h⟩
theorem XPg.new {w : World} {x : Nat} {G : Nat → Prop} {n : Nat} {S T : AS} {op : Bool} {M : Nat} (h : XPg w x G n S T op M) (hM : M ≤ 1000000) :
    Calls Try.prog 35 #[.pointer (some ⟨x, 0, none⟩)] w fun e w' => e = .returned (.tuple #[.int .i64 (newO n op T).1, .int .i64 (newO n op T).2.1]) ∧ XTo w x G n S (newO n op T).2.2 op (M + 3000) w' := by
  cases op
  · refine h.1.new.mono ?_
    rintro e w' ⟨rfl, rfl⟩
    rw [show newO n false T = (0, 12, T) from rfl]
    exact ⟨rfl, h.same (by omega)⟩
  · refine (XOp.new h hM).mono ?_
    rintro e w' ⟨rfl, h1, h2⟩
    rw [show newO n true T = newA n T from if_neg (by simp)]
    exact ⟨rfl, G, XPg.more (op := true) h1 (by omega), h2, fun k h => .inl h⟩
theorem XPg.put {w : World} {x : Nat} {G : Nat → Prop} {n : Nat} {S T : AS} {op : Bool} {M : Nat} (h : XPg w x G n S T op M) (hM : M ≤ 1000000) (k : Int) (hk : (Lit.int .i64 k).wf = true) (v : Value) (l : List UInt8) (hv : Bs w v l) (hl : l.length ≤ 1000000) :
    Calls Try.prog 59 #[.pointer (some ⟨x, 0, none⟩), .int .i64 k, v] w fun e w' => e = .returned (.int .i64 (putO op T k l).1) ∧ XTo w x G n S (putO op T k l).2 op (M + 3000) w' := by
  cases op
  · refine (h.1.put k v).mono ?_
    rintro e w' ⟨rfl, rfl⟩
    rw [show putO false T k l = (12, T) from rfl]
    exact ⟨rfl, h.same (by omega)⟩
  · refine (XOp.put h hM k hk v l hv hl).mono ?_
    rintro e w' ⟨rfl, h1, h2⟩
    rw [show putO true T k l = putA T k l from if_neg (by simp)]
    exact ⟨rfl, G, XPg.more (op := true) h1 (by omega), h2, fun k h => .inl h⟩
theorem XPg.drop {w : World} {x : Nat} {G : Nat → Prop} {n : Nat} {S T : AS} {op : Bool} {M : Nat} (h : XPg w x G n S T op M) (hM : M ≤ 1000000) (k : Int) (hk : (Lit.int .i64 k).wf = true) :
    Calls Try.prog 60 #[.pointer (some ⟨x, 0, none⟩), .int .i64 k] w fun e w' => e = .returned (.int .i64 (dropO op T k).1) ∧ XTo w x G n S (dropO op T k).2 op (M + 3000) w' := by
  cases op
  · refine (h.1.drop k).mono ?_
    rintro e w' ⟨rfl, rfl⟩
    rw [show dropO false T k = (12, T) from rfl]
    exact ⟨rfl, h.same (by omega)⟩
  · refine (XOp.drop h hM k hk).mono ?_
    rintro e w' ⟨rfl, G', h1, h2, h3⟩
    rw [show dropO true T k = dropA T k from if_neg (by simp)]
    exact ⟨rfl, G', XPg.more (op := true) h1 (by omega), h2, h3⟩
theorem XPg.setRoot {w : World} {x : Nat} {G : Nat → Prop} {n : Nat} {S T : AS} {op : Bool} {M : Nat} (h : XPg w x G n S T op M) (k : Int) :
    Calls Try.prog 61 #[.pointer (some ⟨x, 0, none⟩), .int .i64 k] w fun e w' => e = .returned (.int .i64 (rootO op T k).1) ∧ XTo w x G n S (rootO op T k).2 op (M + 3000) w' := by
  cases op
  · refine (h.1.setRoot k).mono ?_
    rintro e w' ⟨rfl, rfl⟩
    rw [show rootO false T k = (12, T) from rfl]
    exact ⟨rfl, h.same (by omega)⟩
  · refine (XOp.setRoot h k).mono ?_
    rintro e w' ⟨rfl, h1, h2⟩
    rw [show rootO true T k = rootA T k from if_neg (by simp)]
    exact ⟨rfl, G, XPg.more (op := true) h1 (by omega), h2, fun k h => .inl h⟩
theorem XPg.commit {w : World} {x : Nat} {G : Nat → Prop} {n : Nat} {S T : AS} {op : Bool} {M : Nat} (h : XPg w x G n S T op M) :
    Calls Try.prog 34 #[.pointer (some ⟨x, 0, none⟩)] w fun e w' => e = .returned (.int .i64 (if op then 0 else 12)) ∧ XTo w x G n T T false (M + 3000) w' := by
  cases op
  · refine h.1.commit.mono ?_
    rintro e w' ⟨rfl, rfl⟩
    have h' := h
    obtain ⟨_, rfl⟩ := h'
    exact ⟨rfl, h.same (by omega)⟩
  · refine (XOp.commit h).mono ?_
    rintro e w' ⟨rfl, h1, h2⟩
    exact ⟨rfl, G, XPg.more (op := false) ⟨h1, rfl⟩ (by omega), h2, fun k h => .inl h⟩
theorem XPg.abort {w : World} {x : Nat} {G : Nat → Prop} {n : Nat} {S T : AS} {op : Bool} {M : Nat} (h : XPg w x G n S T op M) :
    Calls Try.prog 30 #[.pointer (some ⟨x, 0, none⟩)] w fun e w' => e = .returned (.tuple #[]) ∧ XTo w x G n S S false (M + 3000) w' := by
  cases op
  · refine h.1.abort.mono ?_
    rintro e w' ⟨rfl, h1, h2⟩
    exact ⟨rfl, G, XPg.more (op := false) ⟨h1, rfl⟩ (by omega), h2, fun k h => .inl h⟩
  · refine (XOp.abort h).mono ?_
    rintro e w' ⟨rfl, h1, h2⟩
    exact ⟨rfl, G, XPg.more (op := false) ⟨h1, rfl⟩ (by omega), h2, fun k h => .inl h⟩

/-- both, apart from one another -/
structure Duo (w : World) (p d x n : Nat) (F G : Nat → Prop) (s : DS) (S T : AS) (op : Bool) (N : Nat) (S2 T2 : AS) (op2 : Bool) (M : Nat) : Prop where
  pg : PgV w p d F n s S T op N
  rf : XPg w x G n S2 T2 op2 M
  dis : ∀ k, F k → ¬ G k
def DuoTo (w : World) (p d x n : Nat) (F G : Nat → Prop) (s : DS) (S T : AS) (op : Bool) (N : Nat) (S2 T2 : AS) (op2 : Bool) (M : Nat) (w' : World) : Prop :=
  ∃ F' G' N', Duo w' p d x n F' G' s S T op N' S2 T2 op2 M ∧ N' ≤ N ∧ Chg (fun k => F k ∨ G k) w w' ∧ ∀ k, F' k ∨ G' k → (F k ∨ G k) ∨ w.heap.size ≤ k
theorem Duo.new' {w w' : World} {p d x n : Nat} {F G : Nat → Prop} {s : DS} {S T : AS} {op : Bool} {N : Nat} {S2 T2 : AS} {op2 : Bool} {M : Nat} (h : Duo w p d x n F G s S T op N S2 T2 op2 M) (hb : Below w.heap.size w w') : Duo w' p d x n F G s S T op N S2 T2 op2 M :=
  ⟨h.pg.new' hb, h.rf.chg (Chg.new hb (fun _ => False)) (fun _ _ h => h), h.dis⟩
theorem Duo.left {w w' : World} {p d x n : Nat} {F G : Nat → Prop} {s s' : DS} {S T S' T' : AS} {op op' : Bool} {N : Nat} {S2 T2 : AS} {op2 : Bool} {M : Nat} (h : Duo w p d x n F G s S T op N S2 T2 op2 M) (ht : PgTo w p d F n s' S' T' op' N w') :
    DuoTo w p d x n F G s' S' T' op' (N + 1) S2 T2 op2 M w' := by
  obtain ⟨F', N', h1, h2, h3, h4⟩ := ht
  refine ⟨F', G, N', ⟨h1, h.rf.chg h3 (fun k hk hf => h.dis k hf hk), fun k hf hg => ?_⟩, h2, h3.mono (fun k _ hk => .inl hk), fun k hk => ?_⟩
  · rcases h4 k hf with h5 | h5
    · exact h.dis k h5 hg
    · have := h.rf.lt k hg; omega
  · rcases hk with hk | hk
    · exact (h4 k hk).imp (fun h => .inl h) id
    · exact .inl (.inr hk)
theorem Duo.right {w w' : World} {p d x n : Nat} {F G : Nat → Prop} {s : DS} {S T : AS} {op : Bool} {N : Nat} {S2 T2 S3 T3 : AS} {op2 op3 : Bool} {M M' : Nat} (h : Duo w p d x n F G s S T op N S2 T2 op2 M) (ht : XTo w x G n S3 T3 op3 M' w') :
    DuoTo w p d x n F G s S T op N S3 T3 op3 M' w' := by
  obtain ⟨G', h1, h3, h4⟩ := ht
  refine ⟨F, G', N, ⟨h.pg.chg h3 (fun k hf hk => h.dis k hf hk), h1, fun k hf hg => ?_⟩, Nat.le_refl _, h3.mono (fun k _ hk => .inr hk), fun k hk => ?_⟩
  · rcases h4 k hg with h5 | h5
    · exact h.dis k hf h5
    · have := h.pg.lt k hf; omega
  · rcases hk with hk | hk
    · exact .inl (.inl hk)
    · exact (h4 k hk).imp (fun h => .inr h) id
theorem DuoTo.trans {w w1 w2 : World} {p d x n : Nat} {F G F1 G1 : Nat → Prop} {s : DS} {S T : AS} {op : Bool} {N N1 : Nat} {S2 T2 : AS} {op2 : Bool} {M : Nat} (hc : Chg (fun k => F k ∨ G k) w w1) (hf : ∀ k, F1 k ∨ G1 k → (F k ∨ G k) ∨ w.heap.size ≤ k) (hN : N1 ≤ N) (h : DuoTo w1 p d x n F1 G1 s S T op N1 S2 T2 op2 M w2) :
    DuoTo w p d x n F G s S T op N S2 T2 op2 M w2 := by
  obtain ⟨F2, G2, N2, h1, h2, h3, h4⟩ := h
  refine ⟨F2, G2, N2, h1, by omega, hc.trans h3 (fun i hi hq => (hf i hq).resolve_right (by omega)), fun k hk => ?_⟩
  rcases h4 k hk with h5 | h5
  · exact hf k h5
  · exact .inr (Nat.le_trans hc.size h5)
theorem DuoTo.new {w w1 w2 : World} {p d x n : Nat} {F G : Nat → Prop} {s : DS} {S T : AS} {op : Bool} {N : Nat} {S2 T2 : AS} {op2 : Bool} {M : Nat} (hb : Below w.heap.size w w1) (h : DuoTo w1 p d x n F G s S T op N S2 T2 op2 M w2) : DuoTo w p d x n F G s S T op N S2 T2 op2 M w2 :=
  DuoTo.trans (Chg.new hb _) (fun k hk => .inl hk) (Nat.le_refl _) h
theorem Duo.lt {w : World} {p d x n : Nat} {F G : Nat → Prop} {s : DS} {S T : AS} {op : Bool} {N : Nat} {S2 T2 : AS} {op2 : Bool} {M : Nat} (h : Duo w p d x n F G s S T op N S2 T2 op2 M) : ∀ k, F k ∨ G k → k < w.heap.size := fun k hk => hk.elim (h.pg.lt k) (h.rf.lt k)
theorem PgTo.same {w w' : World} {p d : Nat} {F : Nat → Prop} {n : Nat} {s : DS} {S T : AS} {op : Bool} {N : Nat} (h : PgV w p d F n s S T op N) (hb : Below w.heap.size w w') : PgTo w p d F n s S T op N w' := ⟨F, N, h.new' hb, Nat.le_succ _, Chg.new hb _, fun k h => .inl h⟩
/-- Commit, within a transaction and without one -/
theorem PgV.commitO {w : World} {p d : Nat} {F : Nat → Prop} {n : Nat} {s : DS} {S T : AS} {op : Bool} {N : Nat} (h : PgV w p d F n s S T op N) (hTS : op = false → T = S) (hN : N ≤ 399) (ho : s.ops + 3000 ≤ 1000000) (hst : s.stop < 1) :
    Calls Try.prog 24 #[.pointer (some ⟨p, 0, none⟩)] w fun e w' => ∃ s', e = .returned (.int .i64 (if op then 0 else 12)) ∧ PgTo w p d F n s' T T false N w' ∧ s'.stop = s.stop ∧ s'.ops ≤ s.ops + 2010 := by
  cases op
  · refine h.commitShut.mono ?_
    rintro e w' ⟨rfl, hb⟩
    have h' := PgTo.same h hb
    rw [← hTS rfl] at h'
    exact ⟨s, rfl, h', rfl, by omega⟩
  · refine (h.commit hN ho hst).mono ?_
    rintro e w' ⟨s', rfl, h1, h2, h3⟩
    exact ⟨s', rfl, h1, h2, h3⟩
end Go.Proofs.Ytiphekepglihlaa
