/- rows of pages that a call itself makes. -/
import Derived.Test.YtplahohlmiphoaaCnt
namespace Go.Proofs.Ytplahohlmiphoaa
open Go.RowKit
set_option linter.unusedVariables false

def putCells : List (Int × List UInt8) → List Value → List Value
  | q :: ls, b :: bs => .int .i64 q.1 :: b :: putCells ls bs
  | _, _ => []
theorem putCells_length : ∀ (ls : List (Int × List UInt8)) (bs : List Value), bs.length = ls.length → (putCells ls bs).length = ls.length * 2
  | [], [], _ => rfl
  | q :: ls, b :: bs, h => by
    rw [putCells, List.length_cons, List.length_cons, putCells_length ls bs (by simpa using h), List.length_cons]; omega
theorem putCells_snoc : ∀ (ls : List (Int × List UInt8)) (bs : List Value) (q : Int × List UInt8) (b : Value), bs.length = ls.length → putCells (ls ++ [q]) (bs ++ [b]) = putCells ls bs ++ [.int .i64 q.1, b]
  | [], [], q, b, _ => rfl
  | p :: ls, x :: bs, q, b, h => by
    simp only [List.cons_append, putCells]
    rw [putCells_snoc ls bs q b (by simpa using h)]
theorem putCells_get : ∀ (ls : List (Int × List UInt8)) (bs : List Value) (i : Nat) (q : Int × List UInt8) (b : Value), ls[i]? = some q → bs[i]? = some b → (putCells ls bs)[i * 2]? = some (.int .i64 q.1) ∧ (putCells ls bs)[i * 2 + 1]? = some b
  | [], _, i, q, b, h, _ => by simp at h
  | p :: ls, [], i, q, b, _, h => by simp at h
  | p :: ls, x :: bs, 0, q, b, h, h' => by
    simp at h h'
    subst h h'
    exact ⟨rfl, rfl⟩
  | p :: ls, x :: bs, i + 1, q, b, h, h' => by
    have h1 := putCells_get ls bs i q b (by simpa using h) (by simpa using h')
    rw [show (i + 1) * 2 = i * 2 + 1 + 1 by omega]
    exact h1

/-- pages in memory of one's own, their bytes in blocks of G -/
def PutsAt (W : Nat) (G : Nat → Prop) (ls : List (Int × List UInt8)) (bs : List Value) (w wr : World) (v : Value) : Prop :=
  wr.ownsRow W 28 2 v ls.length (putCells ls bs) ∧ bs.length = ls.length ∧
  (∀ (i : Nat) (q : Int × List UInt8) (b : Value), ls[i]? = some q → bs[i]? = some b → Bs wr b q.2 ∧ (0 < q.2.length → ∀ g, b.ownBlock = some g → G g ∧ v.ownBlock ≠ some g)) ∧ Below W w wr ∧ W ≤ wr.heap.size

theorem PutsAt.start {W : Nat} {G : Nat → Prop} {w wr : World} (hb : Below W w wr) (hs : W ≤ wr.heap.size) : PutsAt W G [] [] w wr (.slice none 0 0) :=
  ⟨World.ownsRow_nil _ _ _ _, rfl, fun i q b h => by simp at h, hb, hs⟩

theorem PutsAt.shape {W : Nat} {G : Nat → Prop} {ls : List (Int × List UInt8)} {bs : List Value} {w wr : World} {v : Value} (h : PutsAt W G ls bs w wr v) : ∃ p c, v = .slice p ls.length c := by
  rcases h.1.2 with ⟨h5, h6⟩ | ⟨g, cap, cur, h5, _⟩
  · exact ⟨none, 0, by rw [h5, h6]⟩
  · exact ⟨_, _, h5⟩

theorem putInfo : (Try.prog.info? 28).map (fun i => (i.zero, i.size, i.bytes)) = some (some (.agg #[.int .i64 0, .slice none 0 0]), 2, 32) := by kernel_rfl

/-- nothing of it is turned -/
theorem PutsAt.new {W : Nat} {G : Nat → Prop} {ls : List (Int × List UInt8)} {bs : List Value} {w wr w' : World} {v : Value} (h : PutsAt W G ls bs w wr v) (hb : Below wr.heap.size wr w') : PutsAt W G ls bs w w' v := by
  obtain ⟨h1, h2, h3, h4, h5⟩ := h
  exact ⟨own_chg h1 (Chg.new hb NoFp) (fun _ _ h => h), h2, fun i q b hq hb' => ⟨(h3 i q b hq hb').1.new hb, (h3 i q b hq hb').2⟩, h4.trans (hb.mono h5), Nat.le_trans h5 hb.size⟩

theorem PutsAt.app {W : Nat} {G : Nat → Prop} {ls : List (Int × List UInt8)} {bs : List Value} {w wr w5 w7 : World} {v v' b : Value} {q : Int × List UInt8} {T : TypeId} (h : PutsAt W G ls bs w wr v) (hb : Below wr.heap.size wr w5)
    (hv : Bs w5 b q.2) (hg' : 0 < q.2.length → ∀ g, b.ownBlock = some g → G g ∧ v.ownBlock ≠ some g)
    (ho : w7.ownsRow W 28 2 v' (ls.length + 1) (putCells ls bs ++ [.int .i64 q.1, b])) (hg : (w5.alloc (Obj.cells #[.int .i64 q.1, b] T)).grownBy w7 v.ownBlock)
    (hw : v'.ownBlock = v.ownBlock ∨ v'.ownBlock = some (w5.alloc (Obj.cells #[.int .i64 q.1, b] T)).heap.size) : PutsAt W G (ls ++ [q]) (bs ++ [b]) w w7 v' := by
  obtain ⟨h1, h2, h3, h4, h5⟩ := h
  have hbase : W ≤ w5.heap.size := Nat.le_trans h5 hb.size
  have hbw5 : Below W w w5 := h4.trans (hb.mono h5)
  have hba : W ≤ (w5.alloc (Obj.cells #[.int .i64 q.1, b] T)).heap.size := Nat.le_trans hbase (by simp)
  have mv : ∀ {q' : Int × List UInt8} {b' : Value}, Bs w5 b' q'.2 → (0 < q'.2.length → ∀ g, b'.ownBlock = some g → G g ∧ v.ownBlock ≠ some g) → Bs w7 b' q'.2 ∧ (0 < q'.2.length → ∀ g, b'.ownBlock = some g → G g ∧ v'.ownBlock ≠ some g) := fun {q' b'} hB hG => by
    have e1 : Bs (w5.alloc (Obj.cells #[.int .i64 q.1, b] T)) b' q'.2 := hB.new ((Below.refl _ _).alloc (Nat.le_refl _) _)
    refine ⟨e1.chg (Chg.grown hg) (fun hz g hgb _ hh => (hG hz g hgb).2 hh), fun hz g hgb => ⟨(hG hz g hgb).1, fun hh => ?_⟩⟩
    rcases hw with h8 | h8
    · exact (hG hz g hgb).2 (h8 ▸ hh)
    · rw [h8] at hh
      injection hh with hh
      have := Rd.lt e1 hz (by decide) g hgb
      omega
  refine ⟨by rw [putCells_snoc _ _ _ _ h2, List.length_append]; exact ho, by simp [h2], ?_, (hbw5.alloc hbase _).grown hg hba (fun k hk => (h1.lt k hk).1), Nat.le_trans hba hg.size⟩
  intro i q' b' hq hb'
  rcases Nat.lt_or_ge i ls.length with hij | hij
  · rw [List.getElem?_append_left hij] at hq
    rw [List.getElem?_append_left (by rw [h2]; exact hij)] at hb'
    have h9 := h3 i q' b' hq hb'
    exact mv (h9.1.new hb) h9.2
  · rw [List.getElem?_append_right hij] at hq
    rw [List.getElem?_append_right (by rw [h2]; exact hij), h2] at hb'
    have hi0 : i - ls.length = 0 := by
      rcases Nat.eq_zero_or_pos (i - ls.length) with h | h
      · exact h
      · rw [List.getElem?_eq_none (by simp; omega)] at hq; cases hq
    rw [hi0] at hq hb'
    simp at hq hb'
    subst hq hb'
    exact mv hv hg'

/-- one page more is appended -/
theorem wpList_append_put {W : Nat} {G : Nat → Prop} {ls : List (Int × List UInt8)} {bs : List Value} {w wr w5 : World} {v b : Value} {q : Int × List UInt8} {ops : Array Oper} {rest : List Oper} {o : Oper} {a : Act} {Q : Exit → Act → World → Prop}
    (h : PutsAt W G ls bs w wr v) (hb : Below wr.heap.size wr w5) (hv : Bs w5 b q.2) (hG : 0 < q.2.length → ∀ g, b.ownBlock = some g → G g ∧ v.ownBlock ≠ some g) (hgd : o.guard = none) (s x : Operand)
    (ho : o.op = .call { callee := .builtin .append, args := #[s, x], argTypes := #[29, 29] }) (hs : a.eval s = v) (hx : a.eval x = .slice (some ⟨w5.heap.size, 0, none⟩) 1 1) (h1 : b.oneCell' = true) (hl : ls.length ≤ 1000)
    (hK : ∀ (p' : Option Addr) (c' : Nat) w7, PutsAt W G (ls ++ [q]) (bs ++ [b]) w w7 (.slice p' (ls.length + 1) c') → wpList Try.prog ops Q rest (a.put o.dst (.slice p' (ls.length + 1) c')) w7) :
    wpList Try.prog ops Q (o :: rest) a (w5.alloc (Obj.cells #[.int .i64 q.1, b] 28)) := by
  have O5 := own_chg h.1 (Chg.new hb NoFp) (fun _ _ h => h)
  have SZ : W ≤ (w5.alloc (Obj.cells #[.int .i64 q.1, b] 28)).heap.size := Nat.le_trans (Nat.le_trans h.2.2.2.2 hb.size) (by simp)
  have hrd : Rd (w5.alloc (Obj.cells #[.int .i64 q.1, b] 28)) 2 (.slice (some ⟨w5.heap.size, 0, none⟩) 1 1) 1 [.int .i64 q.1, b] := by
    have hblk : Blk (w5.alloc (Obj.cells #[.int .i64 q.1, b] 28)) w5.heap.size [.int .i64 q.1, b] 28 := heap_alloc_new w5 _
    exact Rd.blk (off := 0) (n := 1) (c := 1) (size := 2) hblk (Nat.le_refl _) (by simp only [maxLen]; omega) (by simp)
  refine wpList_append_rd hgd s x 29 ho W 28 _ 2 32 Try.underlying29 putInfo rfl (by decide) v ls.length (putCells ls bs) hs (O5.alloc _) _ 1 [.int .i64 q.1, b] hx hrd
    (fun u hu => by
      simp only [List.mem_cons, List.not_mem_nil, or_false] at hu
      rcases hu with rfl | rfl
      · rfl
      · exact h1) (by simp only [maxLen]; omega) (by omega) SZ ?_
  intro p' c' w7 hown7 hg7 hb7
  exact hK p' c' w7 (h.app hb hv hG hown7 hg7 hb7)

theorem PutsAt.puts {W : Nat} {G fp : Nat → Prop} {ls : List (Int × List UInt8)} {bs : List Value} {w wr : World} {p : Option Addr} {m c : Nat} (h : PutsAt W G ls bs w wr (.slice p m c)) (hG : ∀ g, G g → ¬ fp g) (hfp : ∀ k, fp k → k < W) :
    IsPuts wr fp p ls ∧ PutsOut fp p := by
  obtain ⟨h1, h2, h3, h4, h5⟩ := h
  have hout : PutsOut fp p := fun ad had hf => by
    subst had
    have := (h1.lt ad.block rfl).1
    have := hfp _ hf
    omega
  refine ⟨fun i hi => ?_, hout⟩
  obtain ⟨g, rfl⟩ : ∃ g, p = some ⟨g, 0, none⟩ := by
    rcases h1.2 with ⟨_, h6⟩ | ⟨g, cap, cur, h5, _⟩
    · omega
    · injection h5 with h5 _ _
      exact ⟨g, h5⟩
  have hq : ls[i]? = some (ls[i]'hi) := List.getElem?_eq_getElem _
  have hb : bs[i]? = some (bs[i]'(by rw [h2]; exact hi)) := List.getElem?_eq_getElem _
  have hc := putCells_get ls bs i _ _ hq hb
  have hcells := h1.cells (g := g) rfl
  have k0 := hcells _ _ hc.1
  have k1 := hcells _ _ hc.2
  rw [Addr.add_off _ rfl] at k0 k1
  have h9 := h3 i _ _ hq hb
  obtain ⟨_, p9, c9, he9, _⟩ := id h9.1
  refine ⟨g, 0, _, p9, c9, rfl, hq, k0, ?_, ?_⟩
  · rw [← he9, Nat.add_assoc]; exact k1
  · rw [← he9]; exact ⟨h9.1, fun hz g hg => hG g (h9.2 hz g hg).1⟩
end Go.Proofs.Ytplahohlmiphoaa
