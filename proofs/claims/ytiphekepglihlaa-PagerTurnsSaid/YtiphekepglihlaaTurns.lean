/- triadlaw4.PagerTurns: what is reckoned. -/
import Derived.Test.YtiphekepglihlaaPagQ
import Derived.Test.YtiphekepglihlaaArgs
namespace Go.Proofs.Ytiphekepglihlaa
open Go.RowKit Go.Maps
set_option linter.unusedVariables false

/-- n pages in use, but those of G, which are free -/
def goneA (n : Nat) (G : List Int) : AS := ⟨fun q => if 1 ≤ q ∧ q ≤ n ∧ q ∉ G then some (pad504 []) else none, G.reverse, n, 0⟩
theorem goneA_zero : goneA 0 [] = as0 := by
  unfold goneA as0
  congr 1
  funext q
  rw [if_neg (by omega)]
theorem goneA_more {n : Nat} (h : n + 1 < 19) : newO 420 true (goneA n []) = ((n : Int) + 1, 0, goneA (n + 1) []) := by
  rw [show newO 420 true (goneA n []) = newA 420 (goneA n []) from if_neg (by simp)]
  unfold newA
  rw [show (goneA n []).gone = [] from rfl]
  simp only
  rw [if_pos (show (goneA n []).ever + 1 < ((420 : Nat) : Int) - 401 by show (n : Int) + 1 < _; omega), show (goneA n []).ever = (n : Int) from rfl]
  refine congrArg (fun x => ((n : Int) + 1, (0 : Int), x)) ?_
  unfold AS.set goneA
  congr 1
  funext q
  simp only [List.not_mem_nil, not_false_eq_true, and_true]
  push_cast
  by_cases e : q = (n : Int) + 1
  · rw [if_pos e, if_pos (by omega)]
  · rw [if_neg e]
    by_cases e2 : 1 ≤ q ∧ q ≤ n
    · rw [if_pos e2, if_pos (by omega)]
    · rw [if_neg e2, if_neg (by omega)]
theorem goneA_drop {n : Nat} {G : List Int} {k : Int} (hk : 1 ≤ k ∧ k ≤ n) : dropO true (goneA n G) k = if k ∈ G then (1, goneA n G) else (0, goneA n (G ++ [k])) := by
  rw [show dropO true (goneA n G) k = dropA (goneA n G) k from if_neg (by simp)]
  unfold dropA
  by_cases e : k ∈ G
  · rw [if_pos e, if_neg]
    show ¬ (if 1 ≤ k ∧ k ≤ n ∧ k ∉ G then some (pad504 []) else none).isSome = true
    rw [if_neg (fun h => h.2.2 e)]
    simp
  · rw [if_neg e, if_pos]
    · refine congrArg (fun x => ((0 : Int), x)) ?_
      unfold AS.set goneA
      simp only [List.reverse_append, List.reverse_singleton, List.singleton_append, List.mem_append, List.mem_singleton, not_or]
      congr 1
      funext q
      by_cases e2 : q = k
      · rw [if_pos e2, if_neg (fun h => h.2.2.2 e2)]
      · rw [if_neg e2]
        by_cases e3 : 1 ≤ q ∧ q ≤ (n : Int) ∧ q ∉ G
        · rw [if_pos e3, if_pos ⟨e3.1, e3.2.1, e3.2.2, e2⟩]
        · rw [if_neg e3, if_neg (fun h => e3 ⟨h.1, h.2.1, h.2.2.1⟩)]
    · show (if 1 ≤ k ∧ k ≤ n ∧ k ∉ G then some (pad504 []) else none).isSome = true
      rw [if_pos ⟨hk.1, hk.2, e⟩]
      rfl
theorem goneA_turn {n : Nat} {G : List Int} {k : Int} (hk : 1 ≤ k ∧ k ≤ n) (hG : k ∉ G) : newO 420 true (goneA n (G ++ [k])) = (k, 0, goneA n G) := by
  rw [show newO 420 true (goneA n (G ++ [k])) = newA 420 (goneA n (G ++ [k])) from if_neg (by simp)]
  unfold newA
  rw [show (goneA n (G ++ [k])).gone = k :: G.reverse by simp [goneA]]
  refine congrArg (fun x => (k, (0 : Int), x)) ?_
  unfold AS.set goneA
  simp only [List.mem_append, List.mem_singleton, not_or]
  congr 1
  funext q
  by_cases e2 : q = k
  · rw [if_pos e2, if_pos ⟨by omega, by omega, by rw [e2]; exact hG⟩]
  · rw [if_neg e2]
    by_cases e3 : 1 ≤ q ∧ q ≤ (n : Int) ∧ q ∉ G
    · rw [if_pos e3, if_pos ⟨e3.1, e3.2.1, e3.2.2, e2⟩]
    · rw [if_neg e3, if_neg (fun h => e3 ⟨h.1, h.2.1, h.2.2.1⟩)]

/-- a pager, and a row of numbers of one's own -/
def TurnAt (w wr : World) (p d : Nat) (A : AS) (G : List Int) (v : Value) (N : Nat) : Prop :=
  ∃ F N', PgV wr p d F 420 (dNew 420) as0 A true N' ∧ N' ≤ N ∧ Below w.heap.size w wr ∧ (∀ k, F k → w.heap.size ≤ k) ∧ wr.ownsRow w.heap.size 3 1 v G.length (G.map (Value.int .i64)) ∧ ∀ g, v.ownBlock = some g → ¬ F g
theorem TurnAt.start {w wr : World} {p d : Nat} {A : AS} {N : Nat} (h : PgW w wr p d 420 (dNew 420) as0 A true N) : TurnAt w wr p d A [] (.slice none 0 0) N := by
  obtain ⟨F, N', h1, h2, h3, h4⟩ := h
  exact ⟨F, N', h1, h2, h3, h4, World.ownsRow_nil _ _ _ _, fun g hg => by cases hg⟩
theorem TurnAt.step {w wr w' : World} {p d : Nat} {F : Nat → Prop} {A' : AS} {G : List Int} {v : Value} {N N' : Nat} (hb : Below w.heap.size w wr) (hF : ∀ k, F k → w.heap.size ≤ k) (ho : wr.ownsRow w.heap.size 3 1 v G.length (G.map (Value.int .i64))) (hv : ∀ g, v.ownBlock = some g → ¬ F g) (hN : N' + 1 ≤ N) (h : PgTo wr p d F 420 (dNew 420) as0 A' true N' w') : TurnAt w w' p d A' G v N := by
  obtain ⟨F', N2, h1, h2, h3, h4⟩ := h
  exact ⟨F', N2, h1, by omega, hb.trans (h3.below hF hb.size), fun k hk => (h4 k hk).elim (hF k) (fun h => Nat.le_trans hb.size h), own_chg ho h3 hv, fun g hg hk => by
    rcases h4 g hk with h5 | h5
    · exact hv g hg h5
    · have := (ho.lt g hg).2
      omega⟩
theorem TurnAt.new {w wr : World} {p d : Nat} {A : AS} {G : List Int} {v : Value} {N : Nat} (h : TurnAt w wr p d A G v N) (hN : N ≤ 1000000) :
    Calls Try.prog 20 #[.pointer (some ⟨p, 0, none⟩)] wr fun e w' => e = .returned (.tuple #[.int .i64 (newO 420 true A).1, .int .i64 (newO 420 true A).2.1]) ∧ TurnAt w w' p d (newO 420 true A).2.2 G v (N + 1) := by
  obtain ⟨F, N', h1, h2, h3, h4, h5, h6⟩ := h
  refine (h1.new (by omega)).mono ?_
  rintro e w' ⟨rfl, h⟩
  exact ⟨rfl, TurnAt.step h3 h4 h5 h6 (by omega) h⟩
theorem TurnAt.drop {w wr : World} {p d : Nat} {A : AS} {G : List Int} {v : Value} {N : Nat} (h : TurnAt w wr p d A G v N) (k : Int) (hN : N ≤ 1000000) :
    Calls Try.prog 21 #[.pointer (some ⟨p, 0, none⟩), .int .i64 k] wr fun e w' => e = .returned (.int .i64 (dropO true A k).1) ∧ TurnAt w w' p d (dropO true A k).2 G v (N + 1) := by
  obtain ⟨F, N', h1, h2, h3, h4, h5, h6⟩ := h
  refine (h1.drop k (by omega)).mono ?_
  rintro e w' ⟨rfl, h⟩
  exact ⟨rfl, TurnAt.step h3 h4 h5 h6 (by omega) h⟩
theorem TurnAt.own {w wr : World} {p d : Nat} {A : AS} {G : List Int} {v : Value} {N : Nat} (h : TurnAt w wr p d A G v N) : wr.ownsRow w.heap.size 3 1 v G.length (G.map (Value.int .i64)) ∧ Below w.heap.size w wr := by
  obtain ⟨F, N', h1, h2, h3, h4, h5, h6⟩ := h
  exact ⟨h5, h3⟩
theorem TurnAt.app {w wr wa w1 : World} {p d : Nat} {A : AS} {G : List Int} {v v' : Value} {N : Nat} {x : Int} (h : TurnAt w wr p d A G v N) (hb : Below wr.heap.size wr wa) (ho : w1.ownsRow w.heap.size 3 1 v' (G.length + 1) (G.map (Value.int .i64) ++ [.int .i64 x])) (hg : wa.grownBy w1 v.ownBlock) (hv : v'.ownBlock = v.ownBlock ∨ v'.ownBlock = some wa.heap.size) :
    TurnAt w w1 p d A (G ++ [x]) v' N := by
  obtain ⟨F, N', h1, h2, h3, h4, h5, h6⟩ := h
  have ha := h1.new' hb
  have hc : Chg (fun k => v.ownBlock = some k) wa w1 := Chg.grown hg
  refine ⟨F, N', ha.chg hc (fun k hk e => h6 k e hk), h2, (h3.trans (hb.mono h3.size)).trans (hc.below (fun k e => (h5.lt k e).1) (Nat.le_trans h3.size hb.size)), h4, by simpa using ho, fun g hg2 hk => ?_⟩
  rcases hv with e | e
  · rw [e] at hg2
    exact h6 g hg2 hk
  · rw [e] at hg2
    cases hg2
    have := ha.lt _ hk
    omega
end Go.Proofs.Ytiphekepglihlaa
