/- Words on memory for walks: what is read through a slice, what a call may have changed, and append over them. the type of a byte. Numbers as bytes, the lowest one first: plain lemmas. A number's bytes read again: plain lemmas. code.put: so many bytes of a number, laid behind others, in new memory. code.Reader: what its methods answer, and what is left to read. package code: numbers alone (for a seat that has no more of it). Arrays and rows of several cells in blocks: what is loaded, stored, copied, made. Regions whose order is open: operations that give the same in every world along the way may be done first; what writes stands in one forced order. -/
import Derived.WalkKit
import Derived.WalkLawsBesides
import Derived.WalkMore
import Derived.ScopeJumps
import Derived.Laws.CopyOwn
import Derived.Laws.AppendOwnNone
import Derived.Handy
import Derived.Laws.MakeOwn
import Derived.Laws.OwnMore
import Derived.OwnWalk
import Derived.Deep.QuietTactic
import Derived.BigQuiet
import Derived.Lib.AppendStr
import Derived.Laws.IdiomStrings
import Derived.Laws.BytesArg
import Derived.Deep.LoopGhost
import Derived.Test.YtdilkgcoecipjaaRows
import Derived.Outline
import Derived.StillTailTactics
import Derived.Orders
namespace Go.Proofs.Ytdilkgcoecipjaa
open Go.RowKit
set_option linter.unusedVariables false

/-- a fact kept from the walk -/
theorem hid {p : Prop} (h : p) : Hid p := h

/-- what differs between two worlds lies in the blocks of fp, or is new -/
structure Chg (fp : Nat → Prop) (w w' : World) : Prop where
  os : w'.os = w.os
  tape : w'.tape = w.tape
  output : w'.output = w.output
  size : w.heap.size ≤ w'.heap.size
  block : ∀ k, k < w.heap.size → ¬ fp k → w'.heap[k]? = w.heap[k]?

def NoFp : Nat → Prop := fun _ => False

theorem Chg.refl (fp : Nat → Prop) (w : World) : Chg fp w w := ⟨rfl, rfl, rfl, Nat.le_refl _, fun _ _ _ => rfl⟩
theorem Chg.mono {fp fq : Nat → Prop} {w w' : World} (h : Chg fp w w') (hm : ∀ k, k < w.heap.size → fp k → fq k) : Chg fq w w' :=
  ⟨h.os, h.tape, h.output, h.size, fun k hk hn => h.block k hk fun hf => hn (hm k hk hf)⟩
theorem Chg.trans {fp fq : Nat → Prop} {a b c : World} (h : Chg fp a b) (k : Chg fq b c) (hq : ∀ i, i < a.heap.size → fq i → fp i) : Chg fp a c :=
  ⟨k.os.trans h.os, k.tape.trans h.tape, k.output.trans h.output, Nat.le_trans h.size k.size,
    fun i hi hn => (k.block i (Nat.lt_of_lt_of_le hi h.size) fun hf => hn (hq i hi hf)).trans (h.block i hi hn)⟩
theorem Chg.below {fp : Nat → Prop} {w w' : World} {B : Nat} (h : Chg fp w w') (hB : ∀ k, fp k → B ≤ k) (hs : B ≤ w.heap.size) : Below B w w' :=
  ⟨h.os, h.tape, h.output, h.size, fun k hk => h.block k (by omega) fun hf => by have := hB k hf; omega⟩
theorem Chg.of_below {w w' : World} {B : Nat} (h : Below B w w') {fp : Nat → Prop} (hB : ∀ k, k < w.heap.size → B ≤ k → fp k) : Chg fp w w' :=
  ⟨h.os, h.tape, h.output, h.size, fun k hk hn => h.block k (Nat.lt_of_not_le fun hb => hn (hB k hk hb))⟩
theorem Chg.new {w w' : World} (h : Below w.heap.size w w') (fp : Nat → Prop) : Chg fp w w' :=
  Chg.of_below h fun _ hk hb => by omega
theorem Chg.alloc (fp : Nat → Prop) (w : World) (o : Obj) : Chg fp w (w.alloc o) :=
  ⟨rfl, rfl, rfl, by simp, fun k hk _ => Below.heap_alloc _ _ _ hk⟩
theorem Chg.setCell {fp : Nat → Prop} (w : World) {a : Addr} (h : fp a.block) (v : Value) : Chg fp w (w.setCell a v) :=
  ⟨rfl, rfl, rfl, by simp [World.setCell], fun k _ hn => Below.heap_setCell _ _ _ _ (by rintro rfl; exact hn h)⟩
theorem Chg.setRow {fp : Nat → Prop} (w : World) {g : Nat} (h : fp g) (cs : Array Value) : Chg fp w (w.setRow g cs) :=
  ⟨rfl, rfl, rfl, by simp, fun k _ hn => setRow_other w g k cs (by rintro rfl; exact hn h)⟩
theorem Chg.drewN (fp : Nat → Prop) (w : World) (n : Nat) : Chg fp w (w.drewN n) := ⟨rfl, rfl, rfl, Nat.le_refl _, fun _ _ _ => rfl⟩
theorem Chg.drewN' {fp : Nat → Prop} {w w' : World} {n : Nat} (h : Chg fp (w.drewN n) w') : Chg fp w w' := ⟨h.os, h.tape, h.output, h.size, h.block⟩
theorem Chg.heap {fp : Nat → Prop} {w w' : World} (h : Chg fp w w') {k : Nat} {o : Obj} (hk : w.heap[k]? = some o) (hn : ¬ fp k) : w'.heap[k]? = some o :=
  (h.block k (Array.getElem?_eq_some_iff.1 hk).1 hn).trans hk

/-- the cells that a slice leads to -/
def Rd (w : World) (size : Nat) (v : Value) (n : Nat) (xs : List Value) : Prop :=
  xs.length = n * size ∧ ∃ p cap, v = .slice p n cap ∧ n ≤ cap ∧ cap ≤ maxLen ∧ (p = none → cap = 0) ∧
    ∀ a, p = some a → ∀ j u, xs[j]? = some u → a.spot = none ∧ w.cell? ⟨a.block, a.off + j, none⟩ = some u

theorem Rd.nil (w : World) (size : Nat) : Rd w size (.slice none 0 0) 0 [] :=
  ⟨by simp, none, 0, rfl, Nat.le_refl _, by simp [maxLen], fun _ => rfl, fun a h => by cases h⟩

theorem Rd.below {w w' : World} {B size n : Nat} {v : Value} {xs : List Value} (h : Rd w size v n xs) (hb : Below B w w')
    (hB : ∀ g, v.ownBlock = some g → g < B) : Rd w' size v n xs := by
  obtain ⟨hl, p, cap, rfl, h1, h2, h3, h4⟩ := h
  refine ⟨hl, p, cap, rfl, h1, h2, h3, fun a ha j u hu => ⟨(h4 a ha j u hu).1, ?_⟩⟩
  subst ha
  exact (hb.cell (p := ⟨a.block, a.off + j, none⟩) (hB a.block rfl)).trans ((h4 a rfl j u hu).2)

theorem Rd.lt {w : World} {size n : Nat} {v : Value} {xs : List Value} (h : Rd w size v n xs) (hn : 0 < n) (hs : 0 < size) : ∀ g, v.ownBlock = some g → g < w.heap.size := by
  obtain ⟨hl, p, cap, rfl, h1, h2, h3, h4⟩ := h
  intro g hg
  cases p with
  | none => simp [Value.ownBlock] at hg
  | some a =>
    have hg' : a.block = g := by simpa [Value.ownBlock] using hg
    have hlen : 0 < xs.length := by rw [hl]; exact Nat.mul_pos hn hs
    have hc := (h4 a rfl 0 _ (List.getElem?_eq_getElem hlen)).2
    have h9 : a.block < w.heap.size := World.block_lt_of_cell? w ⟨a.block, a.off + 0, none⟩ hc
    rw [← hg']; exact h9

theorem Rd.chg {w w' : World} {fp : Nat → Prop} {size n : Nat} {v : Value} {xs : List Value} (h : Rd w size v n xs) (hb : Chg fp w w')
    (hB : 0 < n → ∀ g, v.ownBlock = some g → g < w.heap.size → ¬ fp g) : Rd w' size v n xs := by
  obtain ⟨hl, p, cap, rfl, h1, h2, h3, h4⟩ := h
  refine ⟨hl, p, cap, rfl, h1, h2, h3, fun a ha j u hu => ⟨(h4 a ha j u hu).1, ?_⟩⟩
  subst ha
  have hc := (h4 a rfl j u hu).2
  have hlt := World.block_lt_of_cell? w ⟨a.block, a.off + j, none⟩ hc
  have hn : 0 < n := by
    cases n with
    | zero => simp at hl; subst hl; simp at hu
    | succ k => omega
  exact (World.cell?_of_block (w := w) (a := ⟨a.block, a.off + j, none⟩) (hb.block a.block hlt (hB hn a.block rfl hlt))).trans hc

theorem Rd.new {w w' : World} {size n : Nat} {v : Value} {xs : List Value} (h : Rd w size v n xs) (hb : Below w.heap.size w w') : Rd w' size v n xs :=
  h.chg (Chg.new hb NoFp) fun _ _ _ _ hf => hf

theorem Rd.of_own {w : World} {base e size n : Nat} {v : Value} {xs : List Value} (h : w.ownsRow base e size v n xs) : Rd w size v n xs := by
  refine ⟨h.1, ?_⟩
  rcases h.2 with ⟨rfl, rfl⟩ | ⟨g, cap, cur, rfl, hbg, hg, hnc, hcm, hcs, htake⟩
  · exact ⟨none, 0, rfl, Nat.le_refl _, by simp [maxLen], fun _ => rfl, fun a h => by cases h⟩
  · refine ⟨_, cap, rfl, hnc, hcm, (fun h => by cases h), fun a ha j u hu => ?_⟩
    cases ha
    refine ⟨rfl, ?_⟩
    have := h.cells (g := g) rfl j u hu
    have hadd : (⟨g, 0, none⟩ : Addr).add j = ⟨g, j, none⟩ := by unfold Addr.add; split <;> simp_all
    rw [hadd] at this
    simpa using this

theorem Rd.addr {w : World} {size n m cap : Nat} {a : Option Addr} {xs : List Value} (h : Rd w size (.slice a m cap) n xs) (hn : 0 < n) (hsz : 0 < size := by decide) :
    ∃ b off, a = some ⟨b, off, none⟩ ∧ ∀ j u, xs[j]? = some u → w.cell? ⟨b, off + j, none⟩ = some u := by
  obtain ⟨hl, p, c, he, h1, _, h2, h3⟩ := h
  cases he
  cases a with
  | none => have := h2 rfl; omega
  | some ad =>
    by_cases hs : ad.spot = none
    · obtain ⟨b, off, spot⟩ := ad
      cases hs
      exact ⟨b, off, rfl, fun j u hu => (h3 _ rfl j u hu).2⟩
    · refine absurd ?_ hs
      have hx : 0 < xs.length := by
        cases hxs : xs with
        | nil => exact absurd (by simpa [hxs] using hl) (by have := Nat.mul_pos hn hsz; omega)
        | cons _ _ => simp
      exact (h3 ad rfl 0 _ (List.getElem?_eq_getElem hx)).1

theorem Addr.add_off (a : Addr) (h : a.spot = none) (j : Nat) : a.add j = ⟨a.block, a.off + j, none⟩ := by
  unfold Addr.add
  split
  · subst j; cases a; simp_all
  · rfl

section
variable {P : Program}

/-- append onto a slice of one's own, from any slice that can be read -/
theorem run_append_rd (w : World) (base : Nat) (t ty e : TypeId) (z : Value) (size bytes : Nat) (ht : P.underlying t = some (.slice e))
    (hinf : (P.info? e).map (fun i => (i.zero, i.size, i.bytes)) = some (some z, size, bytes)) (hzs : z.cells.size = size) (hsz : 0 < size)
    (v : Value) (n : Nat) (xs : List Value) (hown : w.ownsRow base e size v n xs)
    (x : Value) (m : Nat) (news : List Value) (hrd : Rd w size x m news) (h1 : ∀ u ∈ news, u.oneCell' = true)
    (h63 : n + m ≤ maxLen) (hbytes : (n + m) * bytes ≤ 140737488355328) (hbase : base ≤ w.heap.size) :
    ∃ v' w', (Builtin.append_ #[t, t] ty #[v, x]).run P w = .ok v' w' ∧ w'.ownsRow base e size v' (n + m) (xs ++ news) ∧ w.grownBy w' v.ownBlock ∧
      (v'.ownBlock = v.ownBlock ∨ v'.ownBlock = some w.heap.size) := by
  obtain ⟨i, hi, hz, rfl, rfl⟩ := info_parts hinf
  obtain ⟨hl, p, cap, rfl, hmc, hcm, hp0, hp⟩ := hrd
  have hsmall : n + m ≤ 9223372036854775807 := by simp only [maxLen] at h63; omega
  cases p with
  | none =>
    obtain rfl := hp0 rfl
    obtain rfl : m = 0 := by omega
    obtain rfl : news = [] := List.eq_nil_of_length_eq_zero (by simpa using hl)
    have hrun := run_append_owned_none (P := P) (w := w) base t ty e i i.size ht hi v n xs hown
    exact ⟨v, w, hrun, by simpa using hown, World.grownBy.refl _ _, .inl rfl⟩
  | some a =>
    have hnews : ∀ j u, news[j]? = some u → w.cell? (a.add j) = some u := fun j u hu => by
      rw [Addr.add_off a (hp a rfl j u hu).1]; exact (hp a rfl j u hu).2
    have hlen : (xs ++ news).length = (n + m) * i.size := by rw [List.length_append, hown.1, hl, Nat.add_mul]
    have grown : ∀ (old : Nat), old < n + m → ∀ (row : Option Nat),
        (w.drew.alloc (.cells (xs.toArray ++ news.toArray ++ Builtin.zeroCells z.cells (grownCap w (n + m) old e - (n + m))) e)).ownsRow base e i.size
          (.slice (some ⟨w.heap.size, 0, none⟩) (n + m) (grownCap w (n + m) old e)) (n + m) (xs ++ news) ∧
        w.grownBy (w.drew.alloc (.cells (xs.toArray ++ news.toArray ++ Builtin.zeroCells z.cells (grownCap w (n + m) old e - (n + m))) e)) row := by
      intro old ho row
      have hge := grownCap_ge w (n + m) old e
      have hcm : grownCap w (n + m) old e ≤ maxLen := grownCap_le_maxLen w (n + m) old e h63
      refine ⟨⟨hlen, .inr ⟨w.heap.size, _, _, rfl, hbase, heap_alloc_new w.drew _, hge, hcm, ?_, ?_⟩⟩, ⟨rfl, rfl, rfl, by simp, fun k hk _ => Below.heap_alloc w.drew _ k hk⟩⟩
      · simp only [Array.size_append, List.size_toArray, size_zeroCells, hzs, hown.1, hl, ← Nat.add_mul]
        congr 1
        omega
      · simp only [Array.toList_append, List.append_assoc]
        rw [← List.append_assoc, ← hlen]
        exact List.take_left
    rcases hown.2 with ⟨rfl, rfl⟩ | ⟨g, cap', cur, rfl, hbg, hg, hnc, hcm', hcs, htake⟩
    · have hx : xs = [] := List.eq_nil_of_length_eq_zero (by simpa using hown.1)
      subst hx
      by_cases hm : m = 0
      · subst hm
        have hn : news = [] := List.eq_nil_of_length_eq_zero (by simpa using hl)
        subst hn
        refine ⟨.slice none 0 0, w, ?_, World.ownsRow_nil w base e i.size, World.grownBy.refl _ _, .inl rfl⟩
        simp [Builtin.append_, run_underlying ht, sizeOf, typeInfo, hi, Builtin.lenOf, Builtin.firstCells, loadCells, loadCellsFrom]
      · have hr := run_append_nil (P := P) w t ty e i z ht hi hz a m cap news hl hnews (by omega) (by omega) (by have hb := hbytes; simp only [Nat.zero_add] at hb; omega)
        have hgr := grown 0 (by omega) (Value.ownBlock (.slice none 0 0))
        simp only [Nat.zero_add, List.nil_append, Array.empty_append] at hgr ⊢
        exact ⟨_, _, hr, hgr.1, hgr.2, .inr rfl⟩
    · by_cases hroom : n + m ≤ cap'
      · have hfit : n * i.size + news.length ≤ cur.size := by rw [hl, hcs, ← Nat.add_mul]; exact Nat.mul_le_mul_right _ hroom
        have hr := run_append_room (P := P) w t ty e i ht hi g n cap' cur hg a m cap news hl hnews h1 hroom hfit
        refine ⟨_, _, hr, ⟨hlen, .inr ⟨g, cap', _, rfl, hbg, setRow_heap w g cur _ e _ hg, hroom, hcm', ?_, ?_⟩⟩, ⟨rfl, rfl, rfl, by simp, fun k _ hk => setRow_other w g k _ (fun e => hk (by simp [Value.ownBlock, e]))⟩, .inl rfl⟩
        · simp only [List.size_toArray, List.length_append, List.length_take, List.length_drop, Array.length_toList]
          omega
        · rw [htake, ← hlen]
          exact List.take_left
      · have holds : ∀ j u, xs[j]? = some u → w.cell? ((⟨g, 0, none⟩ : Addr).add j) = some u := hown.cells (g := g) rfl
        have hr := run_append_grow (P := P) w t ty e i z ht hi hz ⟨g, 0, none⟩ n cap' xs hown.1 holds a m cap news hl hnews (by omega) (by omega) (growslice_fits (by omega) hbytes)
        have hgr := grown cap' (by omega) (Value.ownBlock (.slice (some ⟨g, 0, none⟩) n cap'))
        exact ⟨_, _, hr, hgr.1, hgr.2, .inr rfl⟩

theorem wpList_append_rd {w : World} {ops : Array Oper} {rest : List Oper} {o : Oper} {a : Act} {Q : Exit → Act → World → Prop} (hgd : o.guard = none) (s x : Operand) (t : TypeId)
    (ho : o.op = .call { callee := .builtin .append, args := #[s, x], argTypes := #[t, t] })
    (base : Nat) (e : TypeId) (z : Value) (size bytes : Nat) (ht : P.underlying t = some (.slice e))
    (hinf : (P.info? e).map (fun i => (i.zero, i.size, i.bytes)) = some (some z, size, bytes)) (hzs : z.cells.size = size) (hsz : 0 < size)
    (v : Value) (n : Nat) (xs : List Value) (hs : a.eval s = v) (hown : w.ownsRow base e size v n xs)
    (xv : Value) (m : Nat) (news : List Value) (hx : a.eval x = xv) (hrd : Rd w size xv m news) (h1 : ∀ u ∈ news, u.oneCell' = true)
    (h63 : n + m ≤ maxLen) (hbytes : (n + m) * bytes ≤ 140737488355328) (hbase : base ≤ w.heap.size)
    (h : ∀ (p' : Option Addr) (c' : Nat) w', w'.ownsRow base e size (.slice p' (n + m) c') (n + m) (xs ++ news) → w.grownBy w' v.ownBlock → (Value.ownBlock (.slice p' (n + m) c') = v.ownBlock ∨ Value.ownBlock (.slice p' (n + m) c') = some w.heap.size) → wpList P ops Q rest (a.put o.dst (.slice p' (n + m) c')) w') :
    wpList P ops Q (o :: rest) a w := by
  refine wpList_plain hgd fun K hK => ?_
  obtain ⟨v', w', hr, h2, h3, h4⟩ := run_append_rd (P := P) w base t o.type e z size bytes ht hinf hzs hsz v n xs hown xv m news hrd h1 h63 hbytes hbase
  unfold Oper.wp execOp
  simp only [ho, resolve, invoke, builtin, Sem.run_bind, Sem.run_pure, Result.andThen_ok, List.map_toArray, List.map_cons, List.map_nil, hs, hx, hr]
  obtain ⟨p', c', rfl⟩ : ∃ p' c', v' = .slice p' (n + m) c' := by
    rcases h2.2 with ⟨h5, h6⟩ | ⟨g, cap, cur, h5, _⟩
    · exact ⟨none, 0, by rw [h5, h6]⟩
    · exact ⟨_, _, h5⟩
  exact hK _ _ (h p' c' w' h2 h3 h4)
end

section
variable {Q : Exit → Act → World → Prop} {a : Act} {w : World} {J : Act → World → Prop} {l : Nat}
@[go_sem] theorem Exit.jump_normal : Exit.jump l J Q .normal a w = Q .normal a w := rfl
@[go_sem] theorem Exit.jump_exit (id : Nat) : Exit.jump l J Q (.exit id) a w = Q (.exit id) a w := rfl
@[go_sem] theorem Exit.jump_ret : Exit.jump l J Q .ret a w = Q .ret a w := rfl
@[go_sem] theorem Exit.jump_panic (ch : List PanicEntry) : Exit.jump l J Q (.panic ch) a w = Q (.panic ch) a w := rfl

/-- a scope whose code jumps back to one label: what holds there, with a number that falls -/
theorem wp_scope_goto {P : Program} {c rest : Code} (l : Nat) (J : Nat → Act → World → Prop) (hf : findLabel c l = some (.seq .skip rest))
    (pass : ∀ n a w, J n a w → ∀ K : Act → World → Prop, (∀ n' a' w', n' < n → J n' a' w' → K a' w') → rest.wp P (Exit.jump l K Q) a w)
    (first : ∀ K : Act → World → Prop, (∀ n a w, J n a w → rest.wp P (Exit.jump l K Q) a w) → c.wp P (Exit.jump l K Q) a w) : (Code.scope c).wp P Q a w := by
  refine wp_scope_jumps l (fun a w => ∃ n, J n a w) (fun a w => leastOf (fun n => J n a w)) hf ?_ (fun a w h => wp_seq (wp_skip ?_))
  · exact first _ fun n a w h => pass n a w h _ fun n' a' w' _ h' => ⟨n', h'⟩
  · show rest.wp P _ a w
    refine pass _ a w (leastOf_spec h).1 _ fun n' a' w' hlt h' => ⟨⟨n', h'⟩, ?_⟩
    exact Nat.lt_of_le_of_lt ((leastOf_spec ⟨n', h'⟩).2 n' h') hlt
end

/-- a slice's bound: left out, or a number -/
def Bnd (a : Act) (o : Option Operand) (dflt n : Nat) : Prop :=
  match o with
  | none => n = dflt
  | some x => ∃ k, ∃ i : Int, a.eval x = .int k i ∧ 0 ≤ i ∧ i.toNat = n

section
variable {P : Program}
theorem run_slice_rd (w : World) (t : TypeId) (e : TypeId) (size : Nat) (ht : P.underlying t = some (.slice e)) (hsz : (P.info? e).map (·.size) = some size)
    (p : Option Addr) (n cap lo hi : Nat) (hp0 : p = none → cap = 0) (h1 : lo ≤ hi) (h2 : hi ≤ cap) (l h : Option Value)
    (hl : (l = none ∧ lo = 0) ∨ ∃ k, l = some (.int k (lo : Int))) (hh : (h = none ∧ hi = n) ∨ ∃ k, h = some (.int k (hi : Int))) :
    (Instr.sliceAt t (.slice p n cap) l h none).run P w = .ok (.slice (if cap = lo then p else p.map (·.add (lo * size))) (hi - lo) (cap - lo)) w := by
  obtain ⟨i, hi', rfl⟩ := Option.map_eq_some_iff.1 hsz
  have he : P.elem t = e := by simp [Program.elem, ht]
  rw [run_sliceAt_slice (P := P) w t _ l h none (by rw [he]; exact ht)]
  have hso : (sizeOf e).run P w = .ok i.size w := by simp [sizeOf, typeInfo, hi']
  have hbl : ∀ k code, (Instr.sliceBound (.int k (lo : Int)) hi code).run P w = .ok lo w := fun k code => by
    rw [run_sliceBound _ _ _ _ _ (by omega) (by omega)]; simp
  have hbh : ∀ k code, (Instr.sliceBound (.int k (hi : Int)) cap code).run P w = .ok hi w := fun k code => by
    rw [run_sliceBound _ _ _ _ _ (by omega) (by omega)]; simp
  rcases hl with ⟨rfl, rfl⟩ | ⟨kl, rfl⟩ <;> rcases hh with ⟨rfl, rfl⟩ | ⟨kh, rfl⟩ <;>
    simp [Instr.slice, run_underlying ht, Instr.sliceBounds, hso, hbl, hbh]

theorem slice_rd_of (w : World) (size : Nat) (p : Option Addr) (n cap : Nat) (xs : List Value) (hrd : Rd w size (.slice p n cap) n xs) (lo hi : Nat) (h1 : lo ≤ hi) (h2 : hi ≤ n) :
    Rd w size (.slice (if cap = lo then p else p.map (·.add (lo * size))) (hi - lo) (cap - lo)) (hi - lo) ((xs.drop (lo * size)).take ((hi - lo) * size)) ∧
    Value.ownBlock (.slice (if cap = lo then p else p.map (·.add (lo * size))) (hi - lo) (cap - lo)) = Value.ownBlock (.slice p n cap) := by
  obtain ⟨hl, p', cap', he, h3, h4, h5, h6⟩ := hrd
  cases he
  have hle : hi * size ≤ n * size := Nat.mul_le_mul_right _ h2
  have hsub : (hi - lo) * size = hi * size - lo * size := Nat.sub_mul _ _ _
  refine ⟨⟨?_, _, _, rfl, by omega, by omega, ?_, ?_⟩, ?_⟩
  · rw [List.length_take, List.length_drop, hl, hsub]; omega
  · intro hn
    by_cases hc : cap = lo
    · omega
    · rw [if_neg hc] at hn
      have := h5 (by simpa using hn)
      omega
  · intro a ha
    by_cases hc : cap = lo
    · have : hi - lo = 0 := by omega
      intro j u hu
      simp [this] at hu
    · rw [if_neg hc] at ha
      obtain ⟨b, rfl, rfl⟩ := Option.map_eq_some_iff.1 ha
      intro j u hu
      rw [List.getElem?_take] at hu
      split at hu
      · rw [List.getElem?_drop] at hu
        obtain ⟨hs, hcell⟩ := h6 b rfl _ _ hu
        rw [Addr.add_off b hs]
        exact ⟨rfl, by simpa [Nat.add_assoc] using hcell⟩
      · cases hu
  · by_cases hc : cap = lo
    · rw [if_pos hc]; cases p <;> rfl
    · rw [if_neg hc]
      cases p with
      | none => rfl
      | some b => simp [Value.ownBlock, Addr.add]; split <;> rfl

theorem wpList_slice_rd {w : World} {ops : Array Oper} {rest : List Oper} {o : Oper} {a : Act} {Q : Exit → Act → World → Prop} (hgd : o.guard = none) (t : TypeId) (x : Operand) (l h : Option Operand)
    (ho : o.op = .slice t x l h none) (e : TypeId) (size : Nat) (ht : P.underlying t = some (.slice e)) (hsz : (P.info? e).map (·.size) = some size)
    (v : Value) (n : Nat) (xs : List Value) (hx : a.eval x = v) (hrd : Rd w size v n xs) (lo hi : Nat) (hl : Bnd a l 0 lo) (hh : Bnd a h n hi) (h1 : lo ≤ hi) (h2 : hi ≤ n)
    (hK : ∀ (p' : Option Addr) (c' : Nat), Rd w size (.slice p' (hi - lo) c') (hi - lo) ((xs.drop (lo * size)).take ((hi - lo) * size)) → Value.ownBlock (.slice p' (hi - lo) c') = v.ownBlock → wpList P ops Q rest (a.put o.dst (.slice p' (hi - lo) c')) w) :
    wpList P ops Q (o :: rest) a w := by
  refine wpList_plain hgd fun K hK' => ?_
  have hrd' := hrd
  obtain ⟨hlen, p, cap, rfl, h3, h4, h5, h6⟩ := hrd
  have hl' : (l.map a.eval = none ∧ lo = 0) ∨ ∃ k, l.map a.eval = some (.int k (lo : Int)) := by
    cases l with
    | none => exact .inl ⟨rfl, hl⟩
    | some y => obtain ⟨k, i, h7, h8, h9⟩ := hl; exact .inr ⟨k, by simp [h7, ← h9, Int.toNat_of_nonneg h8]⟩
  have hh' : (h.map a.eval = none ∧ hi = n) ∨ ∃ k, h.map a.eval = some (.int k (hi : Int)) := by
    cases h with
    | none => exact .inl ⟨rfl, hh⟩
    | some y => obtain ⟨k, i, h7, h8, h9⟩ := hh; exact .inr ⟨k, by simp [h7, ← h9, Int.toNat_of_nonneg h8]⟩
  have hr := run_slice_rd (P := P) w t e size ht hsz p n cap lo hi h5 h1 (by omega) _ _ hl' hh'
  obtain ⟨r1, r2⟩ := slice_rd_of w size p n cap xs hrd' lo hi h1 h2
  unfold Oper.wp execOp
  simp only [ho, hx, Option.map_none, hr, Sem.run_bind, Sem.run_pure, Result.andThen_ok]
  exact hK' _ _ (hK _ _ r1 r2)
end

/-- bytes as cells -/
def bv (l : List UInt8) : List Value := l.map fun b => Value.int .u8 (b.toNat : Int)
@[simp] theorem bv_length (l : List UInt8) : (bv l).length = l.length := by simp [bv]
@[simp] theorem bv_nil : bv [] = [] := rfl
theorem bv_append (a b : List UInt8) : bv (a ++ b) = bv a ++ bv b := by simp [bv]
theorem bv_one (l : List UInt8) : ∀ u ∈ bv l, u.oneCell' = true := by
  intro u hu
  obtain ⟨b, _, rfl⟩ := List.mem_map.1 hu
  rfl
theorem bv_get {l : List UInt8} {j : Nat} {b : UInt8} (h : l[j]? = some b) : (bv l)[j]? = some (.int .u8 (b.toNat : Int)) := by
  simp [bv, h]

theorem Rd.fresh (w : World) (cs : List Value) (T : TypeId) (h : cs.length ≤ maxLen) :
    Rd (w.alloc (.cells cs.toArray T)) 1 (.slice (some ⟨w.heap.size, 0, none⟩) cs.length cs.length) cs.length cs := by
  refine ⟨by simp, _, _, rfl, Nat.le_refl _, h, (fun h => by cases h), fun a ha j u hu => ?_⟩
  cases ha
  refine ⟨rfl, ?_⟩
  rw [cell_of_row _ _ _ cs.toArray T (0, 0) (heap_alloc_new w _)]
  simpa using hu
theorem one_le_maxLen : 1 ≤ maxLen := by simp [maxLen]
theorem Rd.fresh1 (w : World) (x : Value) (T : TypeId) : Rd (w.alloc (.cells #[x] T)) 1 (.slice (some ⟨w.heap.size, 0, none⟩) 1 1) 1 [x] :=
  Rd.fresh w [x] T one_le_maxLen
theorem Rd.fresh2 (w : World) (x y : Value) (T : TypeId) : Rd (w.alloc (.cells #[x, y] T)) 1 (.slice (some ⟨w.heap.size, 0, none⟩) 2 2) 2 [x, y] :=
  Rd.fresh w [x, y] T (by simp [maxLen])

theorem own_fresh (w : World) (cs : List Value) (T : TypeId) (n : Nat) (hn : cs.length = n) (h : n ≤ maxLen) (base : Nat) (hb : base ≤ w.heap.size) :
    (w.alloc (.cells cs.toArray T)).ownsRow base T 1 (.slice (some ⟨w.heap.size, 0, none⟩) n n) n cs :=
  ⟨by simp [hn], .inr ⟨_, _, _, rfl, hb, heap_alloc_new w _, Nat.le_refl _, h, by simp [hn], by subst hn; simp⟩⟩

/-- the lowest bytes of a number, the lowest one first -/
def le (u : Int) (n : Nat) : List UInt8 := (List.range n).map fun i => UInt8.ofNat (u / 2 ^ (8 * i) % 256).toNat
@[simp] theorem le_length (u : Int) (n : Nat) : (le u n).length = n := by simp [le]
theorem u8_back (x : Int) (h0 : 0 ≤ x) (h1 : x < 256) : ((UInt8.ofNat x.toNat).toNat : Int) = x := by
  rw [UInt8.toNat_ofNat']; omega
theorem le_succ (u : Int) (k : Nat) : bv (le u (k + 1)) = bv (le u k) ++ [.int .u8 (u / 2 ^ (8 * k) % 256)] := by
  unfold le
  rw [List.range_succ, List.map_append, bv_append]
  have h0 : 0 ≤ u / 2 ^ (8 * k) % 256 := Int.emod_nonneg _ (by omega)
  have h1 : u / 2 ^ (8 * k) % 256 < 256 := Int.emod_lt_of_pos _ (by omega)
  simp only [List.map_cons, List.map_nil]
  congr 1
  simp only [bv, List.map_cons, List.map_nil]
  rw [u8_back _ h0 h1]

theorem bv_at {l : List UInt8} {j : Nat} (h : j < l.length) : (bv l)[j]? = some (.int .u8 ((l[j]).toNat : Int)) := by
  simp [bv, h]

/-- bytes that can be read through a slice -/
abbrev Bs (w : World) (v : Value) (l : List UInt8) : Prop := Rd w 1 v l.length (bv l)

section
variable {P : Program}
theorem strCells_bv (s : ByteArray) : Lib.strCells s = bv s.data.toList := rfl

/-- append of a string onto a slice of one's own -/
theorem wpList_append_str {w : World} {ops : Array Oper} {rest : List Oper} {o : Oper} {a : Act} {Q : Exit → Act → World → Prop} (hgd : o.guard = none) (sl x : Operand) (t u : TypeId)
    (ho : o.op = .call { callee := .builtin .append, args := #[sl, x], argTypes := #[t, u] })
    (base : Nat) (e : TypeId) (ht : P.underlying t = some (.slice e)) (hu : P.underlying u = some .string)
    (hinf : (P.info? e).map (fun i => (i.zero, i.size, i.bytes)) = some (some (.int .u8 0), 1, 1))
    (v : Value) (n : Nat) (xs : List Value) (hs : a.eval sl = v) (hown : w.ownsRow base e 1 v n xs) (s : ByteArray) (hx : a.eval x = .string s)
    (h63 : n + s.size ≤ 2000000) (hbase : base ≤ w.heap.size)
    (h : ∀ (p' : Option Addr) (c' : Nat) w', w'.ownsRow base e 1 (.slice p' (n + s.size) c') (n + s.size) (xs ++ bv s.data.toList) → w.grownBy w' v.ownBlock → wpList P ops Q rest (a.put o.dst (.slice p' (n + s.size) c')) w') :
    wpList P ops Q (o :: rest) a w := by
  obtain ⟨i, hi, hz, hsz, hby⟩ := info_parts hinf
  refine Lib.wpList_append_own_string w hgd sl x t u ho base e i ht hu hi hz hsz hby v n xs hs hown s hx (by simp only [maxLen]; omega) (by omega) hbase ?_
  intro v' w' h2 h3 _
  obtain ⟨p', c', rfl⟩ : ∃ p' c', v' = .slice p' (n + s.size) c' := by
    rcases h2.2 with ⟨h5, h6⟩ | ⟨g, cap, cur, h5, _⟩
    · exact ⟨none, 0, by rw [h5, h6]⟩
    · exact ⟨_, _, h5⟩
  exact h p' c' w' h2 h3

/-- string(b) of bytes that can be read -/
theorem run_bytes_str (w : World) (src dst e : TypeId) (v : Value) (l : List UInt8) (hs : P.underlying src = some (.slice e)) (he : P.underlying e = some (.int .u8)) (hd : P.underlying dst = some .string)
    (hrd : Bs w v l) : (convert src dst v).run P w = .ok (.string ⟨l.toArray⟩) w := by
  obtain ⟨_, p, cap, rfl, h1, h2, h3, h4⟩ := hrd
  cases p with
  | none =>
    obtain rfl := h3 rfl
    obtain rfl : l = [] := List.eq_nil_of_length_eq_zero (by omega)
    exact run_convert_bytes_nil w src e hs he 0 0 dst hd
  | some a =>
    exact run_convert_bytes_back w src dst e a cap l hs he hd (fun j hj => by
      obtain ⟨hspot, hc⟩ := h4 a rfl j _ (bv_at hj)
      rw [Addr.add_off a hspot]; exact hc)

theorem wpList_bytes_str {w : World} {ops : Array Oper} {rest : List Oper} {o : Oper} {a : Act} {Q : Exit → Act → World → Prop} (hgd : o.guard = none) (src dst : TypeId) (x : Operand)
    (ho : o.op = .convert src dst x) (e : TypeId) (hs : P.underlying src = some (.slice e)) (he : P.underlying e = some (.int .u8)) (hd : P.underlying dst = some .string)
    (v : Value) (l : List UInt8) (hx : a.eval x = v) (hrd : Bs w v l) (h : wpList P ops Q rest (a.put o.dst (.string ⟨l.toArray⟩)) w) :
    wpList P ops Q (o :: rest) a w := by
  refine wpList_plain hgd fun K hK => ?_
  have hr := run_bytes_str (P := P) w src dst e v l hs he hd hrd
  unfold Oper.wp execOp
  simp only [ho, hx, hr, Sem.run_bind, Sem.run_pure, Result.andThen_ok]
  exact hK _ _ h
end

section
variable {P : Program}
/-- make([]T, n): a new block of zeros -/
theorem wpList_make_blk {w : World} {ops : Array Oper} {rest : List Oper} {o : Oper} {a : Act} {Q : Exit → Act → World → Prop} (hg : o.guard = none) (l c : Operand) (t : TypeId) (hop : o.op = Op.makeSlice t l c)
    (e : TypeId) (z : Value) (size bytes : Nat) (h1 : P.underlying t = some (.slice e)) (hinf : (P.info? e).map (fun i => (i.zero, i.size, i.bytes)) = some (some z, size, bytes))
    (kl kc : IntKind) (L C : Int) (n : Nat) (hl : a.eval l = .int kl L) (hc : a.eval c = .int kc C) (hL : L = (n : Int)) (hC : C = (n : Int)) (b2 : bytes * n ≤ 281474976710656) (b3 : n ≤ maxLen)
    (hK : ∀ w', w'.heap[w.heap.size]? = some (.cells (madeCells z.cells (n * size)) e (0, 0)) → Below w.heap.size w w' → w.heap.size < w'.heap.size →
      wpList P ops Q rest (a.put o.dst (.slice (some ⟨w.heap.size, 0, none⟩) n n)) w') :
    wpList P ops Q (o :: rest) a w := by
  obtain ⟨i, hi, hz, hsz, rfl⟩ := info_parts hinf
  refine wpList_make_full w hg l c t hop w.heap.size e i z size h1 hi hz hsz kl kc L C n hl hc hL hC b2 b3 (Nat.le_refl _) ?_
  intro w' ho hgr
  rcases ho.2 with ⟨h5, _⟩ | ⟨g, cap, cur, h5, hbg, hh, hnc, hcm, hcs, htake⟩
  · cases h5
  · cases h5
    have hcur : cur = madeCells z.cells (n * size) := by
      apply Array.ext'
      rw [← htake, List.take_of_length_le (by simp [hcs])]
    subst hcur
    have hlt := (Array.getElem?_eq_some_iff.1 hh).1
    exact hK w' hh ((Below.refl _ _).grown hgr (Nat.le_refl _) (by intro k hk; cases hk)) hlt
end

theorem Bs.blk {w : World} {g n : Nat} {l : List UInt8} {T : TypeId} (h : w.heap[g]? = some (.cells (bv l).toArray T (0, 0))) (hn : n = l.length) (hm : n ≤ maxLen) :
    Bs w (.slice (some ⟨g, 0, none⟩) n n) l := by
  subst hn
  refine ⟨by simp, _, _, rfl, Nat.le_refl _, hm, (fun h => by cases h), fun a ha j u hu => ?_⟩
  cases ha
  refine ⟨rfl, ?_⟩
  rw [cell_of_row _ _ _ _ _ _ h]
  simpa using hu

end Go.Proofs.Ytdilkgcoecipjaa

namespace Go.Proofs.Ytdilkgcoecipjaa
open Go.RowKit

theorem infoU8 : (Try.prog.info? 5).map (fun i => (i.zero, i.size, i.bytes)) = some (some (.int .u8 0), 1, 1) := by kernel_rfl
theorem infoU8' : (Try.prog.info? 5).map (·.size) = some 1 := by kernel_rfl
end Go.Proofs.Ytdilkgcoecipjaa

namespace Go.Proofs.Ytdilkgcoecipjaa
set_option linter.unusedVariables false

/-- what bytes are as a number, the lowest one first -/
def num : List UInt8 → Nat
  | [] => 0
  | b :: r => b.toNat + 256 * num r
theorem num_snoc (l : List UInt8) (b : UInt8) : num (l ++ [b]) = num l + 256 ^ l.length * b.toNat := by
  induction l with
  | nil => simp [num]
  | cons x r ih =>
    simp only [List.cons_append, num, ih, List.length_cons, Nat.pow_succ]
    rw [Nat.mul_add, ← Nat.mul_assoc, Nat.mul_comm 256 (256 ^ r.length)]
    omega
theorem num_lt (l : List UInt8) : num l < 256 ^ l.length := by
  induction l with
  | nil => simp [num]
  | cons x r ih => simp only [num, List.length_cons, Nat.pow_succ]; have := x.toNat_lt; omega
theorem pow256 (k : Nat) : 256 ^ k = 2 ^ (8 * k) := by rw [Nat.pow_mul]

theorem or_byte (x c k : Nat) (hx : x < 2 ^ (8 * k)) (hc : c < 256) (hk : k < 8) :
    bits .or .u64 (x : Int) (IntKind.u64.wrap ((c : Int) * 2 ^ (8 * k))) = ((x + 2 ^ (8 * k) * c : Nat) : Int) := by
  have h1 : 2 ^ (8 * k) * 256 ≤ 2 ^ 64 := by
    calc 2 ^ (8 * k) * 256 = 2 ^ (8 * k + 8) := by rw [Nat.pow_add]
      _ ≤ 2 ^ 64 := Nat.pow_le_pow_right (by omega) (by omega)
  have h2 : 2 ^ (8 * k) * c < 2 ^ (8 * k) * 256 := Nat.mul_lt_mul_of_pos_left hc (Nat.two_pow_pos _)
  have h3 : 2 ^ (8 * k) ≤ 2 ^ 64 := Nat.le_trans (Nat.le_mul_of_pos_right _ (by omega)) h1
  have e1 : (c : Int) * 2 ^ (8 * k) = ((2 ^ (8 * k) * c : Nat) : Int) := by rw [Int.mul_comm]; simp
  have e2 : IntKind.u64.wrap ((c : Int) * 2 ^ (8 * k)) = ((2 ^ (8 * k) * c : Nat) : Int) := by
    rw [e1]
    refine IntWalk.u64_in _ ⟨by omega, ?_⟩
    have : 2 ^ (8 * k) * c < 18446744073709551616 := Nat.lt_of_lt_of_le h2 h1
    omega
  rw [e2, (bits_nat .u64 64 (by decide) (fun n h0 h1 => IntWalk.u64_in n ⟨h0, by omega⟩) _ _ (Nat.lt_of_lt_of_le hx h3) (Nat.lt_of_lt_of_le h2 h1)).2]
  congr 1
  rw [Nat.or_comm, ← Nat.two_pow_add_eq_or_of_lt hx, Nat.add_comm]

/-- a round of the reading of a number -/
theorem or_round (g : List UInt8) (k : Nat) (h : k < g.length) (hk : k < 8) :
    bits .or .u64 (num (g.take k) : Nat) (IntKind.u64.wrap ((g[k].toNat : Int) * 2 ^ (8 * k))) = (num (g.take (k + 1)) : Nat) := by
  have hl : (g.take k).length = k := by simp; omega
  have hx : num (g.take k) < 2 ^ (8 * k) := by have := num_lt (g.take k); rwa [hl, pow256] at this
  rw [or_byte _ _ _ hx g[k].toNat_lt hk, List.take_succ_eq_append_getElem h, num_snoc, hl, pow256]

/-- a round of the reading from the highest byte down -/
theorem or_down (g : List UInt8) (k : Nat) (h : k < g.length) (h8 : g.length ≤ 8) :
    bits .or .u64 (IntKind.u64.wrap ((num (g.drop (k + 1)) : Int) * 256)) (g[k].toNat : Int) = (num (g.drop k) : Nat) := by
  have hx : num (g.drop (k + 1)) < 256 ^ 7 := Nat.lt_of_lt_of_le (num_lt _) (Nat.pow_le_pow_right (by omega) (by simp; omega))
  have hb := g[k].toNat_lt
  have e1 : IntKind.u64.wrap ((num (g.drop (k + 1)) : Int) * 256) = ((2 ^ 8 * num (g.drop (k + 1)) : Nat) : Int) := by
    rw [IntWalk.u64_in _ (by omega)]; omega
  rw [e1, (bits_nat .u64 64 (by decide) (fun n h0 h1 => IntWalk.u64_in n ⟨h0, by omega⟩) _ _ (by omega) (by omega)).2]
  have hd : g.drop k = g[k] :: g.drop (k + 1) := List.drop_eq_getElem_cons h
  have hb2 : g[k].toNat < 2 ^ 8 := hb
  rw [← Nat.two_pow_add_eq_or_of_lt hb2, hd]
  simp only [num, Nat.reducePow]
  omega

theorem num_le8 (l : List UInt8) (h : l.length ≤ 8) : num l < 2 ^ 64 := by
  have h1 := num_lt l
  rw [pow256] at h1
  exact Nat.lt_of_lt_of_le h1 (Nat.pow_le_pow_right (by omega) (by omega))
end Go.Proofs.Ytdilkgcoecipjaa

namespace Go.Proofs.Ytdilkgcoecipjaa
open Go.RowKit
set_option linter.unusedVariables false

theorem le_snoc (u : Int) (k : Nat) : le u (k + 1) = le u k ++ [UInt8.ofNat (u / 2 ^ (8 * k) % 256).toNat] := by
  unfold le; rw [List.range_succ, List.map_append]; rfl

theorem num_le (m : Nat) (n : Nat) : num (le (m : Int) n) = m % 2 ^ (8 * n) := by
  induction n with
  | zero => simp [le, num, Nat.mod_one]
  | succ k ih =>
    have hb : (UInt8.ofNat ((m : Int) / 2 ^ (8 * k) % 256).toNat).toNat = m / 2 ^ (8 * k) % 256 := by
      have e : ((m : Int) / 2 ^ (8 * k) % 256) = ((m / 2 ^ (8 * k) % 256 : Nat) : Int) := by
        have hp : ((2 : Int) ^ (8 * k)) = ((2 ^ (8 * k) : Nat) : Int) := (Int.natCast_pow 2 (8 * k)).symm
        rw [hp, ← Int.natCast_ediv]
        exact (Int.natCast_emod _ 256).symm
      rw [e, Int.toNat_natCast, UInt8.toNat_ofNat']
      omega
    rw [le_snoc, num_snoc, ih, le_length, hb, pow256, show 8 * (k + 1) = 8 * k + 8 from by omega, Nat.pow_add, Nat.mod_mul]

theorem u64_up (z : Int) : ∃ m : Nat, IntKind.u64.wrap z = (m : Int) ∧ (m : Int) = z % 18446744073709551616 := by
  have h : IntKind.u64.wrap z = z % 18446744073709551616 := by simp [IntKind.wrap, IntKind.bits, IntKind.signed]
  have h0 := Int.emod_nonneg z (show (18446744073709551616 : Int) ≠ 0 by omega)
  exact ⟨(z % 18446744073709551616).toNat, by rw [h]; omega, by omega⟩

theorem num8 (z : Int) (h0 : -9223372036854775808 ≤ z) (h1 : z ≤ 9223372036854775807) : wrap64 (num (le (IntKind.u64.wrap z) 8) : Nat) = z := by
  obtain ⟨m, hm, hz⟩ := u64_up z
  have h2 : m % 2 ^ (8 * 8) = m := Nat.mod_eq_of_lt (by omega)
  rw [hm, num_le, h2]
  unfold wrap64
  omega

theorem num1 (z : Int) : ((num (le (IntKind.u64.wrap z) 1) : Nat) : Int) = z % 256 := by
  obtain ⟨m, hm, hz⟩ := u64_up z
  rw [hm, num_le]
  omega

theorem and255 (z : Int) (h0 : -9223372036854775808 ≤ z) (h1 : z ≤ 9223372036854775807) : bits .and .i64 z 255 = z % 256 := by
  have e0 : ((255 : Int) % ((2 ^ 64 : Nat) : Int)).toNat = 2 ^ 8 - 1 := by decide
  have hz := Int.emod_nonneg z (show ((2 ^ 64 : Nat) : Int) ≠ 0 by decide)
  show IntKind.i64.wrap (((BitVec.ofInt 64 z &&& BitVec.ofInt 64 255 : BitVec 64).toNat : Nat) : Int) = _
  rw [BitVec.toNat_and, BitVec.toNat_ofInt, BitVec.toNat_ofInt, e0, Nat.and_two_pow_sub_one_eq_mod, IntWalk.i64_in _ (by omega)]
  omega

end Go.Proofs.Ytdilkgcoecipjaa

namespace Go.Proofs.Ytdilkgcoecipjaa
open Go.RowKit
set_option linter.unusedVariables false


theorem put_any (v : Value) (l : List UInt8) (n : Nat) (u : Int) (w : World) (hv : Bs w v l) (hl : l.length ≤ 1000000) (hn : n ≤ 8) (hu0 : 0 ≤ u) (hu1 : u < 2 ^ 64) :
    Calls Try.prog 79 #[v, .int .u64 u, .int .i64 n] w fun e w' => ∃ r, e = .returned r ∧ Below w.heap.size w w' ∧ w'.ownsRow w.heap.size 5 1 r (l.length + n) (bv (l ++ le u n)) := by
  have hm : ∀ k, k ≤ 2000000 → k ≤ maxLen := by intro k hk; simp only [maxLen]; omega
  have HU := hid hu1; clear hu1
  have HM := hid hm; clear hm
  go_enter Try.func79, Try.ntmps79
  go_wp2
  refine wp_scope_goto 0 (fun d a wr => ∃ (k : Nat) (o u9 u10 u11 u12 u13 u14 u15 u16 u17 u18 u19 u20 u21 u22 u23 : Value), d = n - k ∧ k ≤ n ∧ Below w.heap.size w wr ∧ wr.ownsRow w.heap.size 5 1 o (l.length + k) (bv (l ++ le u k)) ∧
     a = ⟨#[v, .int .u64 u, .int .i64 n, undef, undef, undef, Value.slice none 0 0, o, .int .i64 k, u9, u10, u11, u12, u13, u14, u15, u16, u17, u18, u19, u20, u21, u22, u23, undef, undef], []⟩) rfl ?pass ?first
  case first =>
    intro K hK
    go_wp2_with (at_builtin; refine wpList_append_rd rfl _ _ 30 rfl w.heap.size 5 _ 1 1 Try.underlying30 infoU8 rfl (by decide) _ 0 [] rfl (World.ownsRow_nil _ _ _ _) _ _ _ rfl hv (bv_one _) (HM.out _ (by omega)) (by omega) (Nat.le_refl _) ?_; intro pp cc w1 hown1 hg1 hb1)
    go_step3
    simp only [Exit.then]
    rename_i hK'
    refine hK' _ _ (hK n _ _ ⟨0, _, _, _, _, _, _, _, _, _, _, _, _, _, _, _, _, rfl, Nat.zero_le _, ?_, ?_, rfl⟩)
    · exact (Below.refl _ _).grown hg1 (Nat.le_refl _) (by intro k hk; cases hk)
    · simpa [le] using hown1
  case pass =>
    rintro d a wr ⟨k, o, u9, u10, u11, u12, u13, u14, u15, u16, u17, u18, u19, u20, u21, u22, u23, rfl, hk, hb, hown, rfl⟩ K hK
    have HK := hid hK; clear hK
    by_cases hlt : k < n
    · go_wp2_with (at_builtin; refine wpList_append_rd rfl _ _ 30 rfl w.heap.size 5 _ 1 1 Try.underlying30 infoU8 rfl (by decide) _ _ _ rfl (hown.alloc _) _ 1 _ rfl (Rd.fresh1 _ _ _) (by simp [Value.oneCell']) (HM.out _ (by omega)) (by omega) (Nat.le_trans hb.size (by simp)) ?_; intro pp cc w1 hown1 hg1 hb1)
      go_step3
      simp only [Exit.then, Exit.jump, true_and]
      refine HK.out (n - (k + 1)) _ _ (by omega) ⟨k + 1, _, _, _, _, _, _, _, _, _, _, _, _, _, _, _, _, rfl, by omega, ?_, ?_, rfl⟩
      · refine (hb.alloc hb.size _).grown hg1 (Nat.le_trans hb.size (by simp)) ?_
        intro k hk
        exact (hown.lt k hk).1
      · rw [bv_append, le_succ, ← List.append_assoc, ← bv_append]; exact hown1
    · obtain rfl : k = n := by omega
      go_wp2_with (at_builtin; refine wpList_append_rd rfl _ _ 30 rfl w.heap.size 5 _ 1 1 Try.underlying30 infoU8 rfl (by decide) _ 0 [] rfl (World.ownsRow_nil _ _ _ _) _ _ _ rfl (Rd.of_own hown) (bv_one _) (HM.out _ (by omega)) (by omega) hb.size ?_; intro pp cc w1 hown1 hg1 hb1)
      rw [Exit.jump_ret]
      go_ret
      refine ⟨_, rfl, hb.grown hg1 hb.size (by intro k hk; cases hk), ?_⟩
      simpa using hown1
end Go.Proofs.Ytdilkgcoecipjaa

namespace Go.Proofs.Ytdilkgcoecipjaa
open Go.RowKit
set_option linter.unusedVariables false

/-- a reader at a block: what is left, the error -/
def Rdr (w : World) (r : Nat) (ob : Option Nat) (l : List UInt8) (e : Int) : Prop :=
  ∃ v, w.heap[r]? = some (.cells #[v, .int .i64 e] 127 (0, 0)) ∧ Bs w v l ∧ v.ownBlock = ob ∧ ob ≠ some r

/-- taking n bytes: what is had, what is left, the error -/
def tkGot (l : List UInt8) (e : Int) (n : Nat) : List UInt8 := if e ≠ 0 then [] else if l.length < n then [] else l.take n
def tkLeft (l : List UInt8) (e : Int) (n : Nat) : List UInt8 := if e ≠ 0 then l else if l.length < n then l else l.drop n
def tkErr (l : List UInt8) (e : Int) (n : Nat) : Int := if e ≠ 0 then e else if l.length < n then 7 else 0


theorem two_cells {w : World} {r : Nat} {x y : Value} {T : TypeId} (h : w.heap[r]? = some (.cells #[x, y] T (0, 0))) :
    w.cell? ⟨r, 0, none⟩ = some x ∧ w.cell? ⟨r, 1, none⟩ = some y ∧ w.frozen? ⟨r, 0, none⟩ = false ∧ w.frozen? ⟨r, 1, none⟩ = false := by
  refine ⟨?_, ?_, frozen_of_row _ _ _ _ _ h, frozen_of_row _ _ _ _ _ h⟩ <;> rw [cell_of_row _ _ _ _ _ _ h] <;> rfl

theorem two_set1 {w : World} {r : Nat} {x y z : Value} {T : TypeId} (h : w.heap[r]? = some (.cells #[x, y] T (0, 0))) :
    (w.setCell ⟨r, 1, none⟩ z).heap[r]? = some (.cells #[x, z] T (0, 0)) := heap_setCell_same _ _ _ _ _ _ h
theorem two_set0 {w : World} {r : Nat} {x y z : Value} {T : TypeId} (h : w.heap[r]? = some (.cells #[x, y] T (0, 0))) :
    (w.setCell ⟨r, 0, none⟩ z).heap[r]? = some (.cells #[z, y] T (0, 0)) := heap_setCell_same _ _ _ _ _ _ h

theorem ownBlock_chg {r n m : Nat} {v : Value} (h : v.ownBlock ≠ some r) : 0 < n → ∀ g, v.ownBlock = some g → g < m → ¬ (g = r) := by
  rintro _ g hg _ rfl; exact h hg

theorem Rdr.chg {w w' : World} {fp : Nat → Prop} {r : Nat} {ob : Option Nat} {l : List UInt8} {e : Int} (h : Rdr w r ob l e) (hc : Chg fp w w') (hr : ¬ fp r)
    (ho : ∀ g, ob = some g → g < w.heap.size → ¬ fp g) : Rdr w' r ob l e := by
  obtain ⟨v, h1, h2, h3, h4⟩ := h
  exact ⟨v, hc.heap h1 hr, h2.chg hc (fun _ g hg hlt => ho g (h3 ▸ hg) hlt), h3, h4⟩

theorem take_any (r : Nat) (ob : Option Nat) (l : List UInt8) (e : Int) (n : Nat) (w : World) (hr : Rdr w r ob l e) (hl : l.length ≤ 1000000) (hn : n ≤ 100000) (he0 : 0 ≤ e) (he1 : e ≤ 1000) :
    Calls Try.prog 81 #[.pointer (some ⟨r, 0, none⟩), .int .i64 n] w fun en w' => ∃ p, en = .returned p ∧ Chg (fun k => k = r) w w' ∧
      Rdr w' r ob (tkLeft l e n) (tkErr l e n) ∧ Bs w' p (tkGot l e n) ∧ p.ownBlock ≠ some r := by
  obtain ⟨v, hblk, hv, hob, hne⟩ := hr
  obtain ⟨c0, c1, f0, f1⟩ := two_cells hblk
  have HV := hid hv
  obtain ⟨hlen, p, cap, rfl, h3, h4, h5, h6⟩ := hv
  have hne' : Value.ownBlock (.slice p l.length cap) ≠ some r := by rw [hob]; exact hne
  have HN := hid hne'; clear hne'
  have HO := hid hob; clear hob
  have HNE := hid hne; clear hne
  have HB := hid hblk; clear hblk
  clear h6 h5 hlen
  by_cases he : e = 0
  · subst he
    by_cases hlt : l.length < n
    · go_enter Try.func81, Try.ntmps81
      go_wp2
      go_ret
      simp only [tkLeft, tkErr, tkGot, if_pos hlt, ne_eq, not_true_eq_false, if_false]
      refine ⟨_, rfl, Chg.setCell (fp := fun k => k = r) _ rfl _, ⟨_, two_set1 HB.out, Rd.chg HV.out (Chg.setCell _ (fp := fun k => k = r) rfl _) (ownBlock_chg HN.out), HO.out, HNE.out⟩, Rd.nil _ _, by simp [Value.ownBlock]⟩
    · have hle : n ≤ l.length := by omega
      go_enter Try.func81, Try.ntmps81
      go_wp2_with (first | (refine wpList_slice_rd rfl 30 _ _ _ rfl 5 1 Try.underlying30 infoU8' _ _ _ rfl HV.out 0 n rfl ⟨_, _, rfl, by omega, by simp⟩ (by omega) hle ?_; intro qa qc hq hqb) | (refine wpList_slice_rd rfl 30 _ _ _ rfl 5 1 Try.underlying30 infoU8' _ _ _ rfl HV.out n l.length ⟨_, _, rfl, by omega, by simp⟩ rfl hle (Nat.le_refl _) ?_; intro qa2 qc2 hq2 hqb2))
      go_ret
      have e1 : tkLeft l 0 n = l.drop n := by simp [tkLeft, if_neg hlt]
      have e2 : tkErr l 0 n = 0 := by simp [tkErr, if_neg hlt]
      have e3 : tkGot l 0 n = l.take n := by simp [tkGot, if_neg hlt]
      rw [e1, e2, e3]
      have hq' : Bs w (.slice qa (n - 0) qc) (l.take n) := by
        have : (l.take n).length = n - 0 := by simp [hle]
        unfold Bs; rw [this]; simpa [bv] using hq
      have hq2' : Bs w (.slice qa2 (l.length - n) qc2) (l.drop n) := by
        unfold Bs
        have h : (bv l).drop n = bv (l.drop n) := by simp [bv]
        simp only [Nat.mul_one, h, List.length_drop] at hq2 ⊢
        rwa [List.take_of_length_le (by simp)] at hq2
      have hn1 : Value.ownBlock (.slice qa (n - 0) qc) ≠ some r := by rw [hqb]; exact HN.out
      have hn2 : Value.ownBlock (.slice qa2 (l.length - n) qc2) ≠ some r := by rw [hqb2]; exact HN.out
      have hc : Chg (fun k => k = r) w (w.setCell ⟨r, 0, none⟩ (.slice qa2 (l.length - n) qc2)) := Chg.setCell (fp := fun k => k = r) _ rfl _
      exact ⟨_, rfl, hc, ⟨_, two_set0 HB.out, Rd.chg hq2' hc (ownBlock_chg hn2), hqb2.trans HO.out, HNE.out⟩, Rd.chg hq' hc (ownBlock_chg hn1), hn1⟩
  · have he' : (e == 0) = false := by simpa using he
    have hen : (e != 0) = true := by simpa using he
    go_enter Try.func81, Try.ntmps81
    go_wp2
    go_ret
    have e1 : tkLeft l e n = l := by simp [tkLeft, he]
    have e2 : tkErr l e n = e := by simp [tkErr, he]
    have e3 : tkGot l e n = [] := by simp [tkGot, he]
    rw [e1, e2, e3]
    exact ⟨_, rfl, Chg.refl _ _, ⟨_, HB.out, HV.out, HO.out, HNE.out⟩, Rd.nil _ _, by simp [Value.ownBlock]⟩

theorem tkGot_length (l : List UInt8) (e : Int) (n : Nat) : (tkGot l e n).length ≤ n := by
  unfold tkGot; split
  · simp
  · split <;> simp; omega

theorem number_any (r : Nat) (ob : Option Nat) (l : List UInt8) (e : Int) (n : Nat) (w : World) (hr : Rdr w r ob l e) (hl : l.length ≤ 1000000) (hn : n ≤ 8) (he0 : 0 ≤ e) (he1 : e ≤ 1000) :
    Calls Try.prog 69 #[.pointer (some ⟨r, 0, none⟩), .int .i64 n] w fun en w' => en = .returned (.int .u64 (num (tkGot l e n))) ∧ Chg (fun k => k = r) w w' ∧
      Rdr w' r ob (tkLeft l e n) (tkErr l e n) := by
  have hgl := tkGot_length l e n
  have HT := take_any r ob l e n w hr hl (by omega) he0 he1
  generalize tkGot l e n = g at hgl HT ⊢
  have HT := hid HT
  go_enter Try.func69, Try.ntmps69
  go_wp2_with (first | (go_at_call 81; refine HT.out.mono ?_; rintro en w1 ⟨p, rfl, hc, hr1, hp, hpb⟩; have HC := hid hc; have HR := hid hr1; have HP := hid hp; obtain ⟨_, a, cap, rfl, _⟩ := hp; clear hr1 hc hpb HT))
  go_loopw [15, 5] (fun i v wr => ∃ k : Nat, k ≤ g.length ∧ i = .int .i64 k ∧ v = .int .u64 (num (g.take k) : Nat) ∧ wr = w1) (fun i _ _ => g.length - (intOf i).toNat)
  case atStart => exact ⟨0, Nat.zero_le _, rfl, rfl, rfl⟩
  case round =>
    obtain ⟨k, hk, rfl, rfl, rfl⟩ := hrel
    by_cases hlt : k < g.length
    · obtain ⟨b, off, rfl, hc⟩ := Rd.addr HP.out (by omega)
      have hck := hc _ _ (bv_at hlt)
      clear hc
      have hk8 : k < 8 := by omega
      have HO := hid (or_round g k hlt hk8)
      have hb := g[k].toNat_lt
      generalize g[k] = c at hck hb HO
      go_wp2
      rw [HO.out]
      exact ⟨⟨k + 1, by omega, by go_num, rfl, trivial⟩, by simp [intOf]; omega⟩
    · obtain rfl : k = g.length := by omega
      go_wp2
      go_ret
      exact ⟨by simp, HC.out, HR.out⟩
end Go.Proofs.Ytdilkgcoecipjaa

namespace Go.Proofs.Ytdilkgcoecipjaa
open Go.RowKit
set_option linter.unusedVariables false

theorem tkErr_bd {l : List UInt8} {e : Int} {n : Nat} (h0 : 0 ≤ e) (h1 : e ≤ 1000) : 0 ≤ tkErr l e n ∧ tkErr l e n ≤ 1000 := by
  unfold tkErr; split
  · exact ⟨h0, h1⟩
  · split <;> omega
theorem tkLeft_length (l : List UInt8) (e : Int) (n : Nat) : (tkLeft l e n).length ≤ l.length := by
  unfold tkLeft; split
  · simp
  · split <;> simp

theorem rInt_any (r : Nat) (ob : Option Nat) (l : List UInt8) (e : Int) (w : World) (hr : Rdr w r ob l e) (hl : l.length ≤ 1000000) (he0 : 0 ≤ e) (he1 : e ≤ 1000) :
    Calls Try.prog 54 #[.pointer (some ⟨r, 0, none⟩)] w fun en w' => en = .returned (.int .i64 (wrap64 (num (tkGot l e 8)))) ∧ Chg (fun k => k = r) w w' ∧
      Rdr w' r ob (tkLeft l e 8) (tkErr l e 8) := by
  have HN := number_any r ob l e 8 w hr hl (by omega) he0 he1
  generalize num (tkGot l e 8) = m at HN ⊢
  have HN := hid HN
  go_enter Try.func54, Try.ntmps54
  go_wp2_with (first | (go_at_call 69; refine HN.out.mono ?_; rintro en w1 ⟨rfl, hc⟩; have HC := hid hc; clear hc HN))
  go_ret
  exact ⟨rfl, HC.out⟩

theorem u64_bd (v : Int) : 0 ≤ IntKind.u64.wrap v ∧ IntKind.u64.wrap v < 2 ^ 64 := by
  have h : IntKind.u64.wrap v = v % 18446744073709551616 := by simp [IntKind.wrap, IntKind.bits, IntKind.signed]
  rw [h]; omega

/-- a new slice of just these bytes, and nothing else turned -/
def Made (w : World) (l : List UInt8) (e : Ending) (w' : World) : Prop :=
  ∃ p n c, e = .returned (.slice p n c) ∧ n = l.length ∧ Below w.heap.size w w' ∧ w'.ownsRow w.heap.size 5 1 (.slice p n c) n (bv l)

theorem own_shape {w : World} {b t s n : Nat} {v : Value} {xs : List Value} (h : w.ownsRow b t s v n xs) : ∃ p c, v = .slice p n c := by
  rcases h.2 with ⟨h5, h6⟩ | ⟨g, cap, cur, h5, _⟩
  · exact ⟨none, 0, by rw [h5, h6]⟩
  · exact ⟨_, _, h5⟩

theorem made_put {v : Value} {l : List UInt8} {n : Nat} {u : Int} {w : World} (hv : Bs w v l) (hl : l.length ≤ 1000000) (hn : n ≤ 8) (hu0 : 0 ≤ u) (hu1 : u < 2 ^ 64) :
    Calls Try.prog 79 #[v, .int .u64 u, .int .i64 n] w (Made w (l ++ le u n)) :=
  (put_any v l n u w hv hl hn hu0 hu1).mono fun e w' ⟨r, he, hb, ho⟩ => by
    obtain ⟨p, c, rfl⟩ := own_shape ho
    exact ⟨p, _, c, he, by simp, hb, ho⟩

theorem cInt_any (v : Value) (l : List UInt8) (u : Int) (w : World) (hv : Bs w v l) (hl : l.length ≤ 1000000) :
    Calls Try.prog 65 #[v, .int .i64 u] w (Made w (l ++ le (IntKind.u64.wrap u) 8)) := by
  have hu := u64_bd u
  have HP := hid (made_put (n := 8) hv hl (by omega) hu.1 hu.2)
  obtain ⟨_, p, cap, rfl, _⟩ := hv
  clear hu
  go_enter Try.func65, Try.ntmps65
  go_wp2_with (first | (go_at_call 79; refine HP.out.mono ?_; rintro en w1 ⟨p1, n1, c1, rfl, h⟩; have H := hid h; clear h))
  go_ret
  exact ⟨_, _, _, rfl, H.out⟩

/-- a text's bytes, cut -/
theorem New_any (v : Value) (l : List UInt8) (w : World) (hv : Bs w v l) (hl : l.length ≤ 1000000) :
    Calls Try.prog 53 #[v] w fun en w' => ∃ r, en = .returned (.pointer (some ⟨r, 0, none⟩)) ∧ Below w.heap.size w w' ∧ w.heap.size ≤ r ∧ ∃ ob, (∀ g, ob = some g → w.heap.size ≤ g ∧ g < w'.heap.size) ∧ Rdr w' r ob l 0 := by
  have HV := hid hv
  obtain ⟨_, p, cap, rfl, _⟩ := hv
  go_enter Try.func53, Try.ntmps53
  go_wp2_with (at_builtin; refine wpList_append_rd rfl _ _ 30 rfl w.heap.size 5 _ 1 1 Try.underlying30 infoU8 rfl (by decide) _ 0 [] rfl (World.ownsRow_nil _ _ _ _) _ _ _ rfl HV.out (bv_one _) (by simp only [maxLen]; omega) (by omega) (Nat.le_refl _) ?_; intro pp cc w1 hown1 hg1 hb1)
  go_ret
  have H1 := hown1
  simp only [Nat.zero_add, List.nil_append] at H1
  have hb2 : Below w.heap.size w w1 := (Below.refl _ _).grown hg1 (Nat.le_refl _) (by intro k hk; cases hk)
  refine ⟨_, rfl, hb2.alloc hb2.size _, hb2.size, _, fun g hg => ⟨(H1.lt g hg).1, by have := (H1.lt g hg).2; simp; omega⟩, _, heap_alloc_new _ _, ?_, rfl, ?_⟩
  · exact Rd.of_own (H1.alloc _)
  · intro hk
    have := (H1.lt _ hk).2
    omega
end Go.Proofs.Ytdilkgcoecipjaa

namespace Go.Proofs.Ytdilkgcoecipjaa
open Go.RowKit
set_option linter.unusedVariables false

/-- a block's cells -/
abbrev Blk (w : World) (g : Nat) (cur : List Value) (T : TypeId) : Prop := w.heap[g]? = some (.cells cur.toArray T (0, 0))

theorem Blk.lt {w : World} {g : Nat} {cur : List Value} {T : TypeId} (h : Blk w g cur T) : g < w.heap.size := (Array.getElem?_eq_some_iff.1 h).1
theorem Blk.cell {w : World} {g : Nat} {cur : List Value} {T : TypeId} (h : Blk w g cur T) (j : Nat) : w.cell? ⟨g, j, none⟩ = cur[j]? := by
  rw [cell_of_row _ _ _ _ _ _ h]; simp
theorem Blk.frozen {w : World} {g : Nat} {cur : List Value} {T : TypeId} (h : Blk w g cur T) (j : Nat) : w.frozen? ⟨g, j, none⟩ = false := frozen_of_row _ _ _ _ _ h
theorem Blk.set {w : World} {g : Nat} {cur : List Value} {T : TypeId} (h : Blk w g cur T) (j : Nat) (v : Value) : Blk (w.setCell ⟨g, j, none⟩ v) g (cur.set j v) T := by
  unfold Blk
  rw [heap_setCell_same _ _ _ _ _ _ h]; simp
theorem Blk.chg {w w' : World} {fp : Nat → Prop} {g : Nat} {cur : List Value} {T : TypeId} (h : Blk w g cur T) (hc : Chg fp w w') (hn : ¬ fp g) : Blk w' g cur T := hc.heap h hn

theorem setRow_blk {w : World} {g : Nat} {cur new : List Value} {T : TypeId} (h : Blk w g cur T) : Blk (w.setRow g new.toArray) g new T := setRow_heap w g _ _ T _ h
theorem setRow_size (w : World) (g : Nat) (cs : Array Value) : (w.setRow g cs).heap.size = w.heap.size := by simp

/-- part of a block, as a reading -/
theorem Rd.blk {w : World} {g off n c size : Nat} {cur : List Value} {T : TypeId} (h : Blk w g cur T) (hn : n ≤ c) (hm : c ≤ maxLen) (hf : off + n * size ≤ cur.length) :
    Rd w size (.slice (some ⟨g, off, none⟩) n c) n ((cur.drop off).take (n * size)) := by
  refine ⟨by simp; omega, _, _, rfl, hn, hm, (fun h => by cases h), fun a ha j u hu => ?_⟩
  cases ha
  refine ⟨rfl, ?_⟩
  rw [h.cell]
  rw [List.getElem?_take] at hu
  split at hu
  · rwa [List.getElem?_drop] at hu
  · cases hu

theorem Chg.grown {w w' : World} {row : Option Nat} (h : w.grownBy w' row) : Chg (fun q => row = some q) w w' :=
  ⟨h.os, h.tape, h.output, h.size, fun k hk hn => h.block k hk fun e => hn e.symm⟩

section
variable {P : Program}

theorem run_storeCells_blk (w : World) (g off : Nat) (T : TypeId) (cur xs : List Value) (hg : Blk w g cur T) (hfit : off + xs.length ≤ cur.length) (h1 : ∀ u ∈ xs, u.oneCell' = true) :
    (storeCells ⟨g, off, none⟩ xs).run P w = .ok () (w.setRow g (splice cur off xs).toArray) := by
  have h := run_storeCells_at P g off T xs 0 cur.toArray w hg (by simpa using hfit) h1
  simp only [Nat.add_zero] at h
  simpa [splice] using h

theorem run_store_arr (w : World) (ty : TypeId) (size : Nat) (hi : (P.info? ty).map (·.size) = some size) (g off : Nat) (T : TypeId) (cur xs : List Value) (hg : Blk w g cur T) (hl : xs.length = size)
    (hfit : off + size ≤ cur.length) (h1 : ∀ u ∈ xs, u.oneCell' = true) :
    (Instr.storeAt ty (.pointer (some ⟨g, off, none⟩)) (.agg xs.toArray)).run P w = .ok () (w.setRow g (splice cur off xs).toArray) := by
  obtain ⟨i, hi', rfl⟩ := Option.map_eq_some_iff.1 hi
  have hs := run_storeCells_blk (P := P) w g off T cur xs hg (by omega) h1
  simp only [Instr.storeAt, Instr.sureAddr, storeVar, Sem.run_bind, Sem.run_pure, Result.andThen_ok]
  simp [sizeOf, typeInfo, hi', Value.cells, hl, hs]

theorem wpList_store_arr {w : World} {ops : Array Oper} {rest : List Oper} {o : Oper} {a : Act} {Q : Exit → Act → World → Prop} (hgd : o.guard = none) (ty : TypeId) (x y : Operand) (ho : o.op = .store ty x y)
    (size : Nat) (hi : (P.info? ty).map (·.size) = some size) (g off : Nat) (T : TypeId) (cur xs : List Value) (hx : a.eval x = .pointer (some ⟨g, off, none⟩)) (hy : a.eval y = .agg xs.toArray)
    (hg : Blk w g cur T) (hl : xs.length = size) (hfit : off + size ≤ cur.length) (h1 : ∀ u ∈ xs, u.oneCell' = true)
    (h : ∀ w', Blk w' g (splice cur off xs) T → Chg (fun k => k = g) w w' → w'.heap.size = w.heap.size → wpList P ops Q rest (a.put o.dst undef) w') : wpList P ops Q (o :: rest) a w := by
  refine wpList_plain hgd fun K hK => ?_
  have hr := run_store_arr (P := P) w ty size hi g off T cur xs hg hl hfit h1
  unfold Oper.wp execOp
  simp only [ho, hx, hy, hr, Sem.run_bind, Sem.run_pure, Result.andThen_ok]
  exact hK _ _ (h _ (setRow_blk hg) (Chg.setRow (fp := fun k => k = g) _ rfl _) (setRow_size _ _ _))

theorem run_load_arr (w : World) (ty : TypeId) (d : TypeDesc) (hu : P.underlying ty = some d) (hd : (match d with | .struct _ | .array _ _ => true | _ => false) = true) (size : Nat) (hi : (P.info? ty).map (·.size) = some size)
    (g off : Nat) (T : TypeId) (cur : List Value) (hg : Blk w g cur T) (hfit : off + size ≤ cur.length) :
    (Instr.loadAt ty (.pointer (some ⟨g, off, none⟩))).run P w = .ok (.agg ((cur.drop off).take size).toArray) w := by
  obtain ⟨i, hi', rfl⟩ := Option.map_eq_some_iff.1 hi
  have hlen : ((cur.drop off).take i.size).length = i.size := by simp; omega
  have hl := run_loadCells_list (P := P) w ⟨g, off, none⟩ ((cur.drop off).take i.size) (fun j v hv => by
    have hadd : (⟨g, off, none⟩ : Addr).add j = ⟨g, off + j, none⟩ := by unfold Addr.add; split <;> simp_all
    rw [hadd, hg.cell]
    rw [List.getElem?_take] at hv
    split at hv
    · rwa [List.getElem?_drop] at hv
    · cases hv)
  rw [hlen] at hl
  have hagg : (isAgg ty).run P w = .ok true w := by
    unfold isAgg
    rw [Sem.run_bind, run_underlying hu w]
    cases d <;> simp_all
  simp only [Instr.loadAt, Instr.sureAddr, Sem.run_bind, Sem.run_pure, Result.andThen_ok]
  simp [loadVar, Sem.run_bind, hagg, sizeOf, typeInfo, hi', hl]

theorem exec_load_arr {w : World} {o : Oper} {a : Act} (ty : TypeId) (x : Operand) (ho : o.op = .load ty x)
    (d : TypeDesc) (hu : P.underlying ty = some d) (hd : (match d with | .struct _ | .array _ _ => true | _ => false) = true) (size : Nat) (hi : (P.info? ty).map (·.size) = some size)
    (g off : Nat) (T : TypeId) (cur : List Value) (hx : a.eval x = .pointer (some ⟨g, off, none⟩)) (hg : Blk w g cur T) (hfit : off + size ≤ cur.length)
    (xs : List Value) (hxs : (cur.drop off).take size = xs) : (execOp a.eval o).run P w = .ok (.value (.agg xs.toArray)) w := by
  have hr := run_load_arr (P := P) w ty d hu hd size hi g off T cur hg hfit
  rw [hxs] at hr
  unfold execOp
  simp only [ho, hx, hr, Sem.run_bind, Sem.run_pure, Result.andThen_ok]

theorem wpList_load_arr {w : World} {ops : Array Oper} {rest : List Oper} {o : Oper} {a : Act} {Q : Exit → Act → World → Prop} (hgd : o.guard = none) (ty : TypeId) (x : Operand) (ho : o.op = .load ty x)
    (d : TypeDesc) (hu : P.underlying ty = some d) (hd : (match d with | .struct _ | .array _ _ => true | _ => false) = true) (size : Nat) (hi : (P.info? ty).map (·.size) = some size)
    (g off : Nat) (T : TypeId) (cur : List Value) (hx : a.eval x = .pointer (some ⟨g, off, none⟩)) (hg : Blk w g cur T) (hfit : off + size ≤ cur.length)
    (xs : List Value) (hxs : (cur.drop off).take size = xs) (h : wpList P ops Q rest (a.put o.dst (.agg xs.toArray)) w) : wpList P ops Q (o :: rest) a w := by
  refine wpList_plain hgd fun K hK => ?_
  have hr := run_load_arr (P := P) w ty d hu hd size hi g off T cur hg hfit
  rw [hxs] at hr
  unfold Oper.wp execOp
  simp only [ho, hx, hr, Sem.run_bind, Sem.run_pure, Result.andThen_ok]
  exact hK _ _ h

theorem wpStill_load_arr {w : World} {ops : Array Oper} {rest : List Oper} {o : Oper} {a : Act} {Q : Act → Prop} (hgd : o.guard = none) (ty : TypeId) (x : Operand) (ho : o.op = .load ty x)
    (d : TypeDesc) (hu : P.underlying ty = some d) (hd : (match d with | .struct _ | .array _ _ => true | _ => false) = true) (size : Nat) (hi : (P.info? ty).map (·.size) = some size)
    (g off : Nat) (T : TypeId) (cur : List Value) (hx : a.eval x = .pointer (some ⟨g, off, none⟩)) (hg : Blk w g cur T) (hfit : off + size ≤ cur.length)
    (xs : List Value) (hxs : (cur.drop off).take size = xs) (h : wpStill P ops w Q rest (a.put o.dst (.agg xs.toArray))) : wpStill P ops w Q (o :: rest) a := by
  refine wpStill_step fun K hK => ?_
  have hr := run_load_arr (P := P) w ty d hu hd size hi g off T cur hg hfit
  rw [hxs] at hr
  rw [if_pos (by simp [Region.wanted, hgd])]
  unfold Oper.still execOp
  simp only [ho, hx, hr, Sem.run_bind, Sem.run_pure, Result.andThen_ok, Oper.stillUpon]
  exact ⟨trivial, hK _ h⟩

theorem run_copy_gen (w : World) (dT sT ty e : TypeId) (size : Nat) (hu : P.underlying dT = some (.slice e)) (hsz : (P.info? e).map (·.size) = some size)
    (g off dLen dCap : Nat) (T : TypeId) (cur : List Value) (hg : Blk w g cur T) (sv : Value) (sn : Nat) (xs : List Value) (hrd : Rd w size sv sn xs) (hfit : off + min sn dLen * size ≤ cur.length) (h1 : ∀ u ∈ xs, u.oneCell' = true) :
    (Builtin.copy_ #[dT, sT] ty #[.slice (some ⟨g, off, none⟩) dLen dCap, sv]).run P w = .ok (goInt (min sn dLen)) (w.setRow g (splice cur off (xs.take (min sn dLen * size))).toArray) := by
  obtain ⟨i, hi, rfl⟩ := Option.map_eq_some_iff.1 hsz
  obtain ⟨hl, p, cap, rfl, h2, h3, h4, h5⟩ := hrd
  have hlt : (xs.take (min sn dLen * i.size)).length = min sn dLen * i.size := by
    have := Nat.mul_le_mul_right i.size (Nat.min_le_left sn dLen)
    simp; omega
  have hf : (Builtin.firstCells i.size (min sn dLen) (.slice p sn cap)).run P w = .ok (xs.take (min sn dLen * i.size)).toArray w := by
    cases p with
    | none =>
      have := h4 rfl
      obtain rfl : sn = 0 := by omega
      simp [Builtin.firstCells]
    | some a =>
      refine run_firstCells_some w i.size _ a _ _ _ hlt (fun j v hv => ?_)
      rw [List.getElem?_take] at hv
      split at hv
      · obtain ⟨hs, hc⟩ := h5 a rfl j v hv
        rw [Addr.add_off a hs]; exact hc
      · cases hv
  have hst := run_storeCells_blk (P := P) w g off T cur (xs.take (min sn dLen * i.size)) hg (by rw [hlt]; exact hfit) (fun u hu => h1 u (List.mem_of_mem_take hu))
  have hmin : Nat.min sn dLen = min sn dLen := rfl
  have hcast : ((min sn dLen : Nat) : Int) = min (sn : Int) (dLen : Int) := by omega
  simp [Builtin.copy_, run_underlying hu, sizeOf, typeInfo, hi, Builtin.lenOf, hmin, hf, hst]
  rw [hcast]

theorem wpList_copy_gen {w : World} {ops : Array Oper} {rest : List Oper} {o : Oper} {a : Act} {Q : Exit → Act → World → Prop} (hgd : o.guard = none) (d s : Operand) (dT sT : TypeId)
    (ho : o.op = .call { callee := .builtin .copy, args := #[d, s], argTypes := #[dT, sT] }) (e : TypeId) (size : Nat) (hu : P.underlying dT = some (.slice e)) (hsz : (P.info? e).map (·.size) = some size)
    (g off dLen dCap : Nat) (hd : a.eval d = .slice (some ⟨g, off, none⟩) dLen dCap) (T : TypeId) (cur : List Value) (hg : Blk w g cur T)
    (sv : Value) (hs : a.eval s = sv) (sn : Nat) (xs : List Value) (hrd : Rd w size sv sn xs) (hfit : off + min sn dLen * size ≤ cur.length) (h1 : ∀ u ∈ xs, u.oneCell' = true)
    (h : ∀ w', Blk w' g (splice cur off (xs.take (min sn dLen * size))) T → Chg (fun k => k = g) w w' → w'.heap.size = w.heap.size → wpList P ops Q rest (a.put o.dst (goInt (min sn dLen))) w') :
    wpList P ops Q (o :: rest) a w := by
  refine wpList_plain hgd fun K hK => ?_
  have hr := run_copy_gen (P := P) w dT sT o.type e size hu hsz g off dLen dCap T cur hg sv sn xs hrd hfit h1
  unfold Oper.wp execOp
  simp only [ho, resolve, invoke, builtin, Sem.run_bind, Sem.run_pure, Result.andThen_ok, List.map_toArray, List.map_cons, List.map_nil, hd, hs, hr]
  exact hK _ _ (h _ (setRow_blk hg) (Chg.setRow (fp := fun k => k = g) _ rfl _) (setRow_size _ _ _))

/-- a new variable of a type whose zero value has many cells -/
theorem wpList_alloc_z {w : World} {ops : Array Oper} {rest : List Oper} {o : Oper} {a : Act} {Q : Exit → Act → World → Prop} (hgd : o.guard = none) (ty : TypeId) (ho : o.op = .alloc ty)
    (zs : List Value) (hz : (P.info? ty).map (·.zero) = some (some (.agg zs.toArray)))
    (h : ∀ w', Blk w' w.heap.size zs ty → Below w.heap.size w w' → w.heap.size < w'.heap.size → wpList P ops Q rest (a.put o.dst (.pointer (some ⟨w.heap.size, 0, none⟩))) w') :
    wpList P ops Q (o :: rest) a w := by
  obtain ⟨i, hi, hzero⟩ := Option.map_eq_some_iff.1 hz
  refine wpList_plain hgd fun K hK => ?_
  have hr : (Instr.alloc ty true (.tuple #[])).run P w = .ok (.pointer (some ⟨w.heap.size, 0, none⟩)) (w.alloc (.cells zs.toArray ty)) := by
    simp [Instr.alloc, zeroValue, typeInfo, hi, hzero, newVar, newRow, Value.cells]
  unfold Oper.wp execOp
  simp only [ho, hr, Sem.run_bind, Sem.run_pure, Result.andThen_ok]
  exact hK _ _ (h _ (heap_alloc_new w _) ((Below.refl _ _).alloc (Nat.le_refl _) _) (by simp))

theorem fold_sets (xs : List Value) : ∀ (k : Nat) (cells : Array Value), k + xs.length ≤ cells.size →
    ((xs.zipIdx k).foldl (fun cs (c, j) => cs.setIfInBounds j c) cells).toList = cells.toList.take k ++ xs ++ cells.toList.drop (k + xs.length) := by
  induction xs with
  | nil => intro k cells h; simp
  | cons x r ih =>
    intro k cells h
    simp only [List.length_cons] at h
    simp only [List.zipIdx_cons, List.foldl_cons]
    rw [ih (k + 1) (cells.setIfInBounds k x) (by simp; omega)]
    simp only [Array.toList_setIfInBounds, List.length_cons]
    have hk : k < cells.toList.length := by simp; omega
    rw [List.take_set, List.take_succ_eq_append_getElem hk, List.drop_set_of_lt (by omega)]
    have e1 : (cells.toList.take k ++ [cells.toList[k]]).set k x = cells.toList.take k ++ [x] := by
      rw [List.set_append_right _ _ (by simp; omega)]
      simp [Nat.min_eq_left (Nat.le_of_lt (show k < cells.size by omega))]
    rw [e1]
    simp [Nat.add_assoc, Nat.add_comm 1]

theorem fill_whole (xs : List Value) (size : Nat) (hl : xs.length = size) (cells : Array Value) (hc : cells.size = size) :
    Instr.fill (fun i => some (i * size, size)) cells [(0, .agg xs.toArray)] = some xs.toArray := by
  simp only [Instr.fill, Value.cells, List.size_toArray, hl, hc, Nat.zero_mul, Nat.zero_add]
  rw [if_neg (by simp)]
  congr 1
  apply Array.ext'
  have h := fold_sets xs 0 cells (by omega)
  simp only [Nat.zero_add, List.take_zero, List.nil_append] at h
  rw [List.drop_of_length_le (by simp; omega), List.append_nil] at h
  have e : xs.toArray.zipIdx.toList = xs.zipIdx := by simp
  rw [← Array.foldl_toList, e]
  exact h

theorem run_buildSlice_one (w : World) (t e : TypeId) (size : Nat) (z : Value) (hu : P.underlying t = some (.slice e)) (hsz : (P.info? e).map (fun i => (i.zero, i.size)) = some (some z, size)) (hs0 : 0 < size) (hs1 : size ≤ 16777216)
    (xs : List Value) (hl : xs.length = size) : (Instr.buildSlice t 1 #[(0, .agg xs.toArray)]).run P w = .ok (.slice (some ⟨w.heap.size, 0, none⟩) 1 1) (w.alloc (.cells xs.toArray e)) := by
  obtain ⟨i, hi, he⟩ := Option.map_eq_some_iff.1 hsz
  simp only [Prod.mk.injEq] at he
  obtain ⟨hz, rfl⟩ := he
  have hf := fill_whole xs i.size hl ((Array.range (1 * i.size)).map (z.cells[· % z.cells.size]!)) (by simp)
  have h1 : ¬ (16777216 < i.size) := by omega
  have h2 : ¬ (i.size = 0) := by omega
  simp only [Nat.one_mul] at hf
  simp [Instr.buildSlice, run_underlying hu, sizeOf, typeInfo, hi, zeroValue, hz, h1, h2, hf, newRow]

theorem wpList_buildSlice_one {w : World} {ops : Array Oper} {rest : List Oper} {o : Oper} {a : Act} {Q : Exit → Act → World → Prop} (hgd : o.guard = none) (t : TypeId) (x : Operand) (ho : o.op = .buildSlice t 1 #[(0, x)])
    (e : TypeId) (size : Nat) (z : Value) (hu : P.underlying t = some (.slice e)) (hsz : (P.info? e).map (fun i => (i.zero, i.size)) = some (some z, size)) (hs0 : 0 < size) (hs1 : size ≤ 16777216)
    (xs : List Value) (hl : xs.length = size) (hx : a.eval x = .agg xs.toArray)
    (h : ∀ w', Blk w' w.heap.size xs e → Below w.heap.size w w' → w.heap.size < w'.heap.size → wpList P ops Q rest (a.put o.dst (.slice (some ⟨w.heap.size, 0, none⟩) 1 1)) w') :
    wpList P ops Q (o :: rest) a w := by
  refine wpList_plain hgd fun K hK => ?_
  have hr := run_buildSlice_one (P := P) w t e size z hu hsz hs0 hs1 xs hl
  unfold Oper.wp execOp
  simp only [ho, List.map_toArray, List.map_cons, List.map_nil, hx, hr, Sem.run_bind, Sem.run_pure, Result.andThen_ok]
  exact hK _ _ (h _ (heap_alloc_new w _) ((Below.refl _ _).alloc (Nat.le_refl _) _) (by simp))

theorem wpList_build_one {w : World} {ops : Array Oper} {rest : List Oper} {o : Oper} {a : Act} {Q : Exit → Act → World → Prop} (hgd : o.guard = none) (t : TypeId) (i : Nat) (x : Operand) (ho : o.op = .build t #[(i, x)])
    (xv v : Value) (hx : a.eval x = xv) (hr : (Instr.build t #[(i, xv)]).run P w = .ok v w) (h : wpList P ops Q rest (a.put o.dst v) w) : wpList P ops Q (o :: rest) a w := by
  refine wpList_plain hgd fun K hK => ?_
  unfold Oper.wp execOp
  simp only [ho, List.map_toArray, List.map_cons, List.map_nil, hx, hr, Sem.run_bind, Sem.run_pure, Result.andThen_ok]
  exact hK _ _ h

theorem wpList_build_run {w : World} {ops : Array Oper} {rest : List Oper} {o : Oper} {a : Act} {Q : Exit → Act → World → Prop} (hgd : o.guard = none) (t : TypeId) (ps : Array (Nat × Operand)) (ho : o.op = .build t ps)
    (v : Value) (hr : (Instr.build t (ps.map fun (i, x) => (i, a.eval x))).run P w = .ok v w) (h : wpList P ops Q rest (a.put o.dst v) w) : wpList P ops Q (o :: rest) a w := by
  refine wpList_plain hgd fun K hK => ?_
  unfold Oper.wp execOp
  simp only [ho, hr, Sem.run_bind, Sem.run_pure, Result.andThen_ok]
  exact hK _ _ h
end
theorem made_bytes (n : Nat) : madeCells (Value.int .u8 0).cells (n * 1) = (bv (List.replicate n 0)).toArray := by
  apply Array.ext'
  rw [Nat.mul_one]
  show (madeCells #[Value.int .u8 0] n).toList = _
  rw [toList_madeCells_one]
  simp [bv]
theorem splice_all {α : Type} (L X : List α) (h : L.length = X.length) : splice L 0 X = X := by
  simp [splice, h]
theorem bv_drop (l : List UInt8) (k : Nat) : (bv l).drop k = bv (l.drop k) := by simp [bv]
theorem bv_take (l : List UInt8) (k : Nat) : (bv l).take k = bv (l.take k) := by simp [bv]
theorem bv_splice (l r : List UInt8) (k : Nat) : splice (bv l) k (bv r) = bv (splice l k r) := by simp [splice, bv]
end Go.Proofs.Ytdilkgcoecipjaa

namespace Go.Proofs.Ytdilkgcoecipjaa
open Go.RowKit
set_option linter.unusedVariables false

section
variable {P : Program} {ops : Array Oper} {Q : Exit → Act → World → Prop} {md : Region.Mode} {S : World → Prop}

/-- an operation that gives v in every world of S, and leaves it -/
def Stable (P : Program) (ops : Array Oper) (S : World → Prop) (o : Oper) (v : Value) (a : Act) : Prop :=
  (Region.wanted o (yielded ops a.tmps) = true ∧ ∀ w, S w → (execOp a.eval o).run P w = .ok (.value v) w ∨
    ∃ f args, (execOp a.eval o).run P w = .ok (.enter f args) w ∧ Calls P f args w (fun e w'' => e = .returned v ∧ w'' = w)) ∨
  (Region.wanted o (yielded ops a.tmps) = false ∧ v = undef)

theorem Stable.op {i : Nat} {o : Oper} {v : Value} {a : Act} {w : World} (hi : ops[i]? = some o) (hS : S w) (hy : Stable P ops S o v a) {K : Act → World → Prop} (h : K (a.put o.dst v) w) :
    wpOp P ops Q i K a w := by
  unfold wpOp
  simp only [hi]
  rcases hy with ⟨hw, hv⟩ | ⟨hw, rfl⟩
  · rcases hv w hS with hr | ⟨f, args, hr, hc⟩
    · simp only [hw, if_true, Oper.wp, hr, Oper.upon]; exact .inl h
    · simp only [hw, if_true, Oper.wp, hr, Oper.upon]
      refine .inl (hc.mono fun e w'' he => ?_)
      obtain ⟨rfl, rfl⟩ := he
      exact h
  · simp only [hw, Bool.false_eq_true, if_false]; exact h

theorem Stable.same {o : Oper} {v : Value} {a a' : Act} (hy : Stable P ops S o v a) (he : execOp a'.eval o = execOp a.eval o)
    (hw : Region.wanted o (yielded ops a'.tmps) = Region.wanted o (yielded ops a.tmps)) : Stable P ops S o v a' := by
  unfold Stable at *
  rw [he, hw]
  exact hy

/-- another operation is done ahead of a stable one -/
theorem op_swap {j : Nat} {oi oj : Oper} {v : Value} (hj : ops[j]? = some oj) (hap : oi.apart ops oj = true)
    (hsi : ∀ cs b, oi.op ≠ .select cs b) (hsj : ∀ cs b, oj.op ≠ .select cs b)
    (hQ : ∀ c a w d u, Q (.panic c) (Act.put a d u) w → Q (.panic c) a w) {K : Act → World → Prop} {a : Act} {w : World}
    (hy : Stable P ops S oi v a) (h : wpOp P ops Q j K (a.put oi.dst v) w) :
    wpOp P ops Q j (fun a' w' => Stable P ops S oi v a' ∧ K (a'.put oi.dst v) w') a w := by
  obtain ⟨h1, h2, h3⟩ := Oper.apart_spec hap
  have keep : ∀ a : Act, Stable P ops S oi v a → ∀ u, Stable P ops S oi v (a.put oj.dst u) := fun a hy u =>
    hy.same (execOp_put oi hsi a oj.dst u h3) (wanted_put oi a oj.dst u h3)
  unfold wpOp at *
  simp only [hj] at *
  rw [wanted_put oj a oi.dst v h1] at h
  by_cases hw : Region.wanted oj (yielded ops a.tmps) = true
  · rw [if_pos hw] at h ⊢
    rcases h with h | ⟨ha, hl⟩
    · refine .inl ?_
      unfold Oper.wp at *
      rw [execOp_put oj hsj a oi.dst v h1] at h
      generalize (execOp a.eval oj).run P w = r at *
      cases r with
      | ok n w' =>
        cases n <;> simp only [Oper.upon] at h ⊢
        case value u => exact ⟨keep a hy u, by rw [← Act.put_comm a v u h2]; exact h⟩
        case skip => exact ⟨keep a hy _, by rw [← Act.put_comm a v undef h2]; exact h⟩
        case defer d =>
          refine ⟨keep { a with defers := d :: a.defers } (hy.same rfl rfl) _, ?_⟩
          rw [← Act.put_comm _ v undef h2, ← Act.put_defers]
          exact h
        case enter f args =>
          refine Calls.mono h fun e w'' he => ?_
          cases e with
          | returned u => exact ⟨keep a hy u, by rw [← Act.put_comm a v u h2]; exact he⟩
          | panicked c => exact hQ _ _ _ _ _ he
          | outgrown => exact he
        case row row args => exact Rows.mono h fun u w'' he => ⟨keep a hy u, by rw [← Act.put_comm a v u h2]; exact he⟩
      | halt x w' =>
        cases x <;> simp only [Oper.upon] at h ⊢
        case panic u => exact hQ _ _ _ _ _ h
    · refine .inr ⟨?_, hl⟩
      unfold Oper.asks at *
      rw [execOp_put oj hsj a oi.dst v h1] at ha
      exact ha
  · rw [if_neg hw] at h ⊢
    exact ⟨keep a hy _, by rw [← Act.put_comm a v undef h2]; exact h⟩

/-- what an operation waits for; and what that waits for -/
def depsOf (md : Region.Mode) (ops : Array Oper) (j : Nat) : List Nat :=
  match ops[j]? with
  | some o => (o.after.toList.filter fun e => Region.binds md e).map (·.on)
  | none => []
def depsAll (md : Region.Mode) (ops : Array Oper) : Nat → List Nat → List Nat
  | 0, l => l
  | n + 1, l => depsAll md ops n (l ++ l.flatMap (depsOf md ops)).eraseDups

/-- what is listed is listed with what it waited for -/
def Closed (md : Region.Mode) (ops : Array Oper) (listed : Array Bool) : Prop :=
  listed.size = ops.size ∧ ∀ j oj, ops[j]? = some oj → listed.getD j false = true → ∀ e ∈ oj.after, Region.binds md e = true → listed.getD e.on false = true

theorem Closed.deps {listed : Array Bool} (hc : Closed md ops listed) {j : Nat} (h : listed.getD j false = true) : ∀ k ∈ depsOf md ops j, listed.getD k false = true := by
  intro k hk
  unfold depsOf at hk
  cases ho : ops[j]? with
  | none => simp [ho] at hk
  | some o =>
    simp only [ho, List.mem_map, List.mem_filter, Array.mem_toList_iff] at hk
    obtain ⟨e, ⟨he, hb⟩, rfl⟩ := hk
    exact hc.2 j o ho h e he hb

theorem Closed.all {listed : Array Bool} (hc : Closed md ops listed) : ∀ (n : Nat) (l : List Nat), (∀ k ∈ l, listed.getD k false = true) → ∀ k ∈ depsAll md ops n l, listed.getD k false = true := by
  intro n
  induction n with
  | zero => intro l h; exact h
  | succ n ih =>
    intro l h
    refine ih _ fun k hk => ?_
    rw [List.mem_eraseDups, List.mem_append] at hk
    rcases hk with hk | hk
    · exact h k hk
    · obtain ⟨j, hj, hk⟩ := List.mem_flatMap.1 hk
      exact hc.deps (h j hj) k hk

theorem ready_deps {listed : Array Bool} {j : Nat} (hr : j ∈ Region.ready md ops listed) : ∀ k ∈ depsOf md ops j, listed.getD k false = true := by
  intro k hk
  obtain ⟨_, o, ho, hall⟩ := mem_ready.1 hr
  unfold depsOf at hk
  simp only [ho, List.mem_map, List.mem_filter, Array.mem_toList_iff] at hk
  obtain ⟨e, ⟨he, hb⟩, rfl⟩ := hk
  exact hall e he hb

theorem Closed.set {listed : Array Bool} (hc : Closed md ops listed) {i : Nat} (hi : i ∈ Region.ready md ops listed) : Closed md ops (listed.setIfInBounds i true) := by
  obtain ⟨_, oi, hoi, hall⟩ := mem_ready.1 hi
  refine ⟨by simp [hc.1], fun j oj hj hl e he hb => ?_⟩
  by_cases hij : i = j
  · subst hij
    have : oj = oi := Option.some.inj (hj.symm.trans hoi)
    subst this
    exact getD_set_true (hall e he hb)
  · rw [getD_set_ne false hij] at hl
    exact getD_set_true (hc.2 j oj hj hl e he hb)

theorem Closed.none : Closed md ops (Array.replicate ops.size false) := by
  refine ⟨by simp, fun j oj hj hl => ?_⟩
  have : (Array.replicate ops.size false).getD j false = false := by
    rcases Nat.lt_or_ge j ops.size with h | h
    · simp [h]
    · simp [h]
  rw [this] at hl
  cases hl

/-- an operation behind which S need not hold: it waits for all that is stable -/
def brkB (md : Region.Mode) (ops : Array Oper) (st brk : Nat → Bool) : Bool :=
  (List.range ops.size).all fun j => !brk j || (List.range ops.size).all fun k => !st k || (depsAll md ops ops.size (depsOf md ops j)).contains k

theorem brkB_spec {st brk : Nat → Bool} (h : brkB md ops st brk = true) {listed : Array Bool} (hc : Closed md ops listed) {i j : Nat} (hi : i ∈ Region.ready md ops listed) (hst : st i = true) (hj : j ∈ Region.ready md ops listed) : brk j = false := by
  cases hb : brk j with
  | false => rfl
  | true =>
    obtain ⟨hiun, oi, hoi, _⟩ := mem_ready.1 hi
    obtain ⟨_, oj, hoj, _⟩ := mem_ready.1 hj
    have h1 := List.all_eq_true.1 h j (List.mem_range.2 (Array.getElem?_eq_some_iff.1 hoj).1)
    simp only [hb, Bool.not_true, Bool.false_or] at h1
    have h2 := List.all_eq_true.1 h1 i (List.mem_range.2 (Array.getElem?_eq_some_iff.1 hoi).1)
    simp only [hst, Bool.not_true, Bool.false_or, List.contains_iff_mem] at h2
    have h3 := hc.all _ _ (ready_deps hj) i h2
    have hlt : i < listed.size := by rw [hc.1]; exact (Array.getElem?_eq_some_iff.1 hoi).1
    simp [hlt] at hiun h3
    rw [hiun] at h3
    cases h3

/-- any order, S holding behind each step but those of brk -/
def wpI (P : Program) (md : Region.Mode) (ops : Array Oper) (Q : Exit → Act → World → Prop) (S : World → Prop) (brk : Nat → Bool) : Nat → Array Bool → Act → World → Prop
  | 0, listed, a, w => Region.ready md ops listed = [] ∧ Q .normal a w
  | fuel + 1, listed, a, w =>
    (Region.ready md ops listed = [] → Q .normal a w) ∧
    ∀ i ∈ Region.ready md ops listed, wpOp P ops Q i (fun a' w' => (brk i = false → S w') ∧ wpI P md ops Q S brk fuel (listed.setIfInBounds i true) a' w') a w

theorem wpI_any {brk : Nat → Bool} : ∀ (fuel : Nat) (listed : Array Bool) (a : Act) (w : World), wpI P md ops Q S brk fuel listed a w → wpAny P md ops Q fuel listed a w := by
  intro fuel
  induction fuel with
  | zero => intro listed a w h; exact h
  | succ fuel ih => intro listed a w h; exact ⟨h.1, fun i hi => wpOp_mono (fun a' w' hk => ih _ _ _ hk.2) (h.2 i hi)⟩

theorem wpI_first {st brk : Nat → Bool} (hbrk : brkB md ops st brk = true) {i : Nat} {oi : Oper} {v : Value} (hi : ops[i]? = some oi) (hst : st i = true) (hsel : ∀ (j : Nat) (o : Oper) cs b, ops[j]? = some o → o.op ≠ .select cs b)
    (hQ : ∀ c a w d u, Q (.panic c) (Act.put a d u) w → Q (.panic c) a w) :
    ∀ (fuel : Nat) (listed : Array Bool) (a : Act) (w : World), Closed md ops listed →
      (∀ j oj, ops[j]? = some oj → j ≠ i → listed.getD j true = false → (∀ e ∈ oj.after, Region.binds md e = true → e.on ≠ i) → oi.apart ops oj = true) →
      i ∈ Region.ready md ops listed → S w → Stable P ops S oi v a →
      wpI P md ops Q S brk fuel (listed.setIfInBounds i true) (a.put oi.dst v) w → wpI P md ops Q S brk (fuel + 1) listed a w := by
  intro fuel
  induction fuel with
  | zero =>
    intro listed a w _ _ hr hS hy H
    refine ⟨fun h => (by rw [h] at hr; cases hr), fun j hj => ?_⟩
    by_cases hji : j = i
    · subst hji; exact hy.op hi hS ⟨fun _ => hS, H⟩
    · have := ready_mono hj hji
      rw [H.1] at this
      cases this
  | succ fuel ih =>
    intro listed a w hcl hfree hr hS hy H
    refine ⟨fun h => (by rw [h] at hr; cases hr), fun j hj => ?_⟩
    by_cases hji : j = i
    · subst hji; exact hy.op hi hS ⟨fun _ => hS, H⟩
    · have h1 := H.2 j (ready_mono hj hji)
      have hbj := brkB_spec hbrk hcl hr hst hj
      obtain ⟨hjun, oj, hoj, hall⟩ := mem_ready.1 hj
      have hnot : ∀ e ∈ oj.after, Region.binds md e = true → e.on ≠ i := fun e he hb heq => by
        have h1 := hall e he hb
        have h0 := (mem_ready.1 hr).1
        rw [heq] at h1
        rcases Nat.lt_or_ge i listed.size with h' | h'
        · simp [h'] at h0 h1; rw [h0] at h1; cases h1
        · simp [Array.getElem?_eq_none h'] at h1
      have h2 := op_swap hoj (hfree j oj hoj hji hjun hnot) (fun cs b => hsel i oi cs b hi) (fun cs b => hsel j oj cs b hoj) hQ hy h1
      have hfree' : ∀ k ok, ops[k]? = some ok → k ≠ i → (listed.setIfInBounds j true).getD k true = false →
          (∀ e ∈ ok.after, Region.binds md e = true → e.on ≠ i) → oi.apart ops ok = true := fun k ok hk hki hun hno => by
        refine hfree k ok hk hki ?_ hno
        by_cases hjk : j = k
        · subst hjk; exact hjun
        · rw [getD_set_ne true hjk] at hun; exact hun
      refine wpOp_mono (fun a' w' h3 => ⟨h3.2.1, ih (listed.setIfInBounds j true) a' w' (hcl.set hj) hfree' (ready_mono hr (Ne.symm hji)) (h3.2.1 hbj) h3.1 ?_⟩) h2
      rw [Array.setIfInBounds_comm _ _ hji]
      exact h3.2.2

/-- a plan: which operation next; at a fork two that write may come in either order -/
inductive Plan where
  | nil : Plan
  | cons (j : Nat) (rest : Plan) : Plan
  | fork (j k : Nat) (r1 r2 : Plan) : Plan
def Plan.of : List Nat → Plan
  | [] => .nil
  | j :: l => .cons j (Plan.of l)
def Plan.depth : Plan → Nat
  | .nil => 0
  | .cons _ r => r.depth + 1
  | .fork _ _ r _ => r.depth + 1
def Plan.any (st : Nat → Bool) : Plan → Bool
  | .nil => false
  | .cons j r => st j || r.any st
  | .fork j k r1 r2 => st j || st k || r1.any st || r2.any st

/-- one that writes, and what is to hold behind it -/
def effect (P : Program) (ops : Array Oper) (Q : Exit → Act → World → Prop) (S : World → Prop) (j : Nat) (must : Bool) (K : Act → World → Prop) (a : Act) (w : World) : Prop :=
  match ops[j]? with
  | none => False
  | some o => if Region.wanted o (yielded ops a.tmps) then o.wp P a w (fun a' w' => (must = true → S w') ∧ K a' w') Q ∨ (o.asks P a w ∧ LetsOut Q) else (must = true → S w) ∧ K (a.put o.dst undef) w

/-- st: is it stable; brk: need S not hold behind it -/
def wpPlan (P : Program) (ops : Array Oper) (Q : Exit → Act → World → Prop) (S : World → Prop) (st brk : Nat → Bool) : Plan → Act → World → Prop
  | .nil, a, w => Q .normal a w
  | .cons j rest, a, w =>
    match ops[j]? with
    | none => False
    | some o => if st j then ∃ v, Stable P ops S o v a ∧ wpPlan P ops Q S st brk rest (a.put o.dst v) w
      else effect P ops Q S j (!brk j || rest.any st) (wpPlan P ops Q S st brk rest) a w
  | .fork j k r1 r2, a, w => effect P ops Q S j (!brk j || r1.any st) (wpPlan P ops Q S st brk r1) a w ∧ effect P ops Q S k (!brk k || r2.any st) (wpPlan P ops Q S st brk r2) a w

/-- may the plan be taken: a stable operation is ready and apart from the others; another one is the only one that is ready, or they are the two -/
def planB (md : Region.Mode) (ops : Array Oper) (st brk : Nat → Bool) : Plan → Array Bool → Bool
  | .nil, listed => Region.ready md ops listed == []
  | .cons j rest, listed => (if st j then (Region.ready md ops listed).contains j && Region.free md ops listed j else Region.ready md ops listed == [j] && (!brk j || !rest.any st)) && planB md ops st brk rest (listed.setIfInBounds j true)
  | .fork j k r1 r2, listed => Region.ready md ops listed == [j, k] && (!brk j || !r1.any st) && (!brk k || !r2.any st) && r1.depth == r2.depth &&
      planB md ops st brk r1 (listed.setIfInBounds j true) && planB md ops st brk r2 (listed.setIfInBounds k true)

theorem effect_op {st brk : Nat → Bool} {j : Nat} {rest : Plan} {fuel : Nat} {listed : Array Bool} {a : Act} {w : World} (hrd : j ∈ Region.ready md ops listed) (hcl : Closed md ops listed)
    (ih : ∀ a w, (rest.any st = true → S w) → wpPlan P ops Q S st brk rest a w → wpI P md ops Q S brk fuel (listed.setIfInBounds j true) a w)
    (h : effect P ops Q S j (!brk j || rest.any st) (wpPlan P ops Q S st brk rest) a w) : wpOp P ops Q j (fun a' w' => (brk j = false → S w') ∧ wpI P md ops Q S brk fuel (listed.setIfInBounds j true) a' w') a w := by
  unfold effect at h
  unfold wpOp
  cases ho : ops[j]? with
  | none => simp only [ho] at h
  | some o =>
    simp only [ho] at h ⊢
    by_cases hw : Region.wanted o (yielded ops a.tmps) = true
    · rw [if_pos hw] at h ⊢
      exact h.imp (Oper.wp_mono (fun a' w' hk => ⟨fun hb => hk.1 (by simp [hb]), ih _ _ (fun hr => hk.1 (by simp [hr])) hk.2⟩)) id
    · rw [if_neg hw] at h ⊢
      exact ⟨fun hb => h.1 (by simp [hb]), ih _ _ (fun hr => h.1 (by simp [hr])) h.2⟩

theorem wpI_plan (hsel : Region.noSelect ops = true) (hQ : ∀ c a w d u, Q (.panic c) (Act.put a d u) w → Q (.panic c) a w) (st brk : Nat → Bool) (hbrk : brkB md ops st brk = true) :
    ∀ (l : Plan) (listed : Array Bool) (a : Act) (w : World), Closed md ops listed → planB md ops st brk l listed = true → (l.any st = true → S w) → wpPlan P ops Q S st brk l a w → wpI P md ops Q S brk l.depth listed a w := by
  intro l
  induction l with
  | nil => intro listed a w _ hp hS h; exact ⟨by simpa [planB] using hp, h⟩
  | cons j rest ih =>
    intro listed a w hcl hp hS h
    simp only [planB, Bool.and_eq_true] at hp
    obtain ⟨hp1, hp2⟩ := hp
    simp only [wpPlan] at h
    cases ho : ops[j]? with
    | none => simp only [ho] at h
    | some o =>
      simp only [ho] at h
      by_cases hst : st j = true
      · rw [if_pos hst] at h hp1
        simp only [Bool.and_eq_true] at hp1
        obtain ⟨v, hy, h⟩ := h
        have hrd : j ∈ Region.ready md ops listed := by simpa using hp1.1
        have hSw := hS (by simp [Plan.any, hst])
        exact wpI_first hbrk ho hst (Region.noSelect_spec hsel) hQ _ listed a w hcl (Region.free_spec ho hp1.2) hrd hSw hy (ih _ _ _ (hcl.set hrd) hp2 (fun _ => hSw) h)
      · rw [if_neg hst] at h hp1
        simp only [Bool.and_eq_true] at hp1
        have hr : Region.ready md ops listed = [j] := by simpa using hp1.1
        have hrd : j ∈ Region.ready md ops listed := by rw [hr]; simp
        refine ⟨fun h0 => (by rw [hr] at h0; cases h0), fun i hi => ?_⟩
        rw [hr] at hi
        obtain rfl : i = j := by simpa using hi
        exact effect_op hrd hcl (fun a w hs hk => ih _ a w (hcl.set hrd) hp2 hs hk) h
  | fork j k r1 r2 ih1 ih2 =>
    intro listed a w hcl hp hS h
    simp only [planB, Bool.and_eq_true] at hp
    obtain ⟨⟨⟨⟨⟨hp1, _⟩, _⟩, hd⟩, hq1⟩, hq2⟩ := hp
    have hr : Region.ready md ops listed = [j, k] := by simpa using hp1
    have hd : r1.depth = r2.depth := by simpa using hd
    have hj : j ∈ Region.ready md ops listed := by rw [hr]; simp
    have hk : k ∈ Region.ready md ops listed := by rw [hr]; simp
    refine ⟨fun h0 => (by rw [hr] at h0; cases h0), fun i hi => ?_⟩
    rw [hr] at hi
    rcases List.mem_cons.1 hi with rfl | hi
    · exact effect_op hj hcl (fun a w hs hk => ih1 _ a w (hcl.set hj) hq1 hs hk) h.1
    · obtain rfl := List.mem_singleton.1 hi
      refine effect_op hk hcl (fun a w hs hkk => ?_) h.2
      show wpI P md ops Q S brk r1.depth _ a w
      rw [hd]
      exact ih2 _ a w (hcl.set hk) hq2 hs hkk

/-- no panic -/
def Qn (Q : Exit → Act → World → Prop) : Exit → Act → World → Prop
  | .normal, a, w => Q .normal a w
  | .outgrown, a, w => Q .outgrown a w
  | _, _, _ => False
theorem Qn.of {Q : Exit → Act → World → Prop} : ∀ e a w, Qn Q e a w → Q e a w := fun e a w h => by cases e <;> first | exact h | exact h.elim
theorem LetsOut.weak {Q Q' : Exit → Act → World → Prop} (h : ∀ e a w, Q e a w → Q' e a w) : LetsOut Q → LetsOut Q' := fun ⟨a, w, hq⟩ => ⟨a, w, h _ _ _ hq⟩

theorem wpOp_weak {Q' : Exit → Act → World → Prop} (hq : ∀ e a w, Q e a w → Q' e a w) {i : Nat} {a : Act} {w : World} {K K' : Act → World → Prop} (hk : ∀ a w, K a w → K' a w) (h : wpOp P ops Q i K a w) : wpOp P ops Q' i K' a w := by
  unfold wpOp at *
  cases ho : ops[i]? with
  | none => simp only [ho] at h ⊢; exact hk _ _ h
  | some o =>
    simp only [ho] at h ⊢
    by_cases hw : Region.wanted o (yielded ops a.tmps) = true
    · rw [if_pos hw] at h ⊢
      refine h.imp (fun h2 => ?_) (fun h2 => ⟨h2.1, LetsOut.weak hq h2.2⟩)
      unfold Oper.wp at *
      generalize (execOp a.eval o).run P w = r at *
      cases r with
      | ok n w' =>
        cases n <;> simp only [Oper.upon] at h2 ⊢ <;>
          first
            | exact hk _ _ h2
            | exact Calls.mono h2 (fun e w'' he => by cases e <;> first | exact hk _ _ he | exact hq _ _ _ he | exact LetsOut.weak hq he)
            | exact Rows.mono h2 (fun _ _ he => hk _ _ he)
      | halt x w' => cases x <;> simp only [Oper.upon] at h2 ⊢ <;> exact hq _ _ _ h2
    · rw [if_neg hw] at h ⊢
      exact hk _ _ h

theorem wpAny_weak {Q' : Exit → Act → World → Prop} (hq : ∀ e a w, Q e a w → Q' e a w) : ∀ (fuel : Nat) (listed : Array Bool) (a : Act) (w : World), wpAny P md ops Q fuel listed a w → wpAny P md ops Q' fuel listed a w := by
  intro fuel
  induction fuel with
  | zero => intro listed a w h; exact ⟨h.1, hq _ _ _ h.2⟩
  | succ fuel ih => intro listed a w h; exact ⟨fun h0 => hq _ _ _ (h.1 h0), fun i hi => wpOp_weak hq (fun a' w' hk => ih _ _ _ hk) (h.2 i hi)⟩

theorem wp_region_plan {id : Nat} {a : Act} {w : World} (S : World → Prop) (st brk : Nat → Bool) (l : Plan) (hm : P.follows .mixedOrders = true) (hsel : Region.noSelect ops = true) (hlen : l.depth = ops.size)
    (hb : brkB .any ops st brk = true) (hp : planB .any ops st brk l (Array.replicate ops.size false) = true) (hS : S w.drew)
    (h : wpPlan P ops (Qn Q) S st brk l a w.drew) : (Code.region id ops true).wp P Q a w := by
  refine wp_region_any hm (wpAny_weak Qn.of _ _ _ _ (wpI_any (S := S) (brk := brk) _ _ _ _ ?_))
  rw [← hlen]
  exact wpI_plan hsel (fun _ _ _ _ _ h => h.elim) st brk hb l _ a w.drew (by rw [hlen]; exact Closed.none) (by rw [hlen]; exact hp) (fun _ => hS) h

/-- one stable step of a plan -/
theorem wpPlan_st {st brk : Nat → Bool} {j : Nat} {rest : Plan} {a a' : Act} {w : World} {o : Oper} {v : Value} (ho : ops[j]? = some o) (hst : st j = true) (hw : Region.wanted o (yielded ops a.tmps) = true)
    (hv : ∀ w', S w' → (execOp a.eval o).run P w' = .ok (.value v) w') (ha : a.put o.dst v = a') (h : wpPlan P ops Q S st brk rest a' w) : wpPlan P ops Q S st brk (.cons j rest) a w := by
  subst ha
  simp only [wpPlan, ho, hst, if_true]
  exact ⟨v, .inl ⟨hw, fun w' hS => .inl (hv w' hS)⟩, h⟩
/-- one stable step that is a call -/
theorem wpPlan_call {st brk : Nat → Bool} {j : Nat} {rest : Plan} {a a' : Act} {w : World} {o : Oper} {v : Value} (ho : ops[j]? = some o) (hst : st j = true) (hw : Region.wanted o (yielded ops a.tmps) = true) (f : FuncId) (args : Array Value)
    (hr : ∀ w', S w' → (execOp a.eval o).run P w' = .ok (.enter f args) w') (hc : ∀ w', S w' → Calls P f args w' (fun e w'' => e = .returned v ∧ w'' = w')) (ha : a.put o.dst v = a') (h : wpPlan P ops Q S st brk rest a' w) :
    wpPlan P ops Q S st brk (.cons j rest) a w := by
  subst ha
  simp only [wpPlan, ho, hst, if_true]
  exact ⟨v, .inl ⟨hw, fun w' hS => .inr ⟨f, args, hr w' hS, hc w' hS⟩⟩, h⟩
/-- one step of a plan that writes -/
theorem wpPlan_eff {st brk : Nat → Bool} {j : Nat} {rest : Plan} {a : Act} {w : World} {o : Oper} (ho : ops[j]? = some o) (hst : st j = false) (hw : Region.wanted o (yielded ops a.tmps) = true)
    (h : ∀ K : Act → World → Prop, (∀ a' w', ((!brk j || rest.any st) = true → S w') → wpPlan P ops Q S st brk rest a' w' → K a' w') → o.wp P a w K Q ∨ (o.asks P a w ∧ LetsOut Q)) : wpPlan P ops Q S st brk (.cons j rest) a w := by
  simp only [wpPlan, ho, hst, Bool.false_eq_true, if_false, effect]
  rw [if_pos hw]
  exact h _ fun a' w' hS hk => ⟨hS, hk⟩
/-- one stable step, shown as a step of a still region -/
theorem wpPlan_val {st brk : Nat → Bool} {j : Nat} {rest : Plan} {a : Act} {w : World} {o : Oper} (v : Value) (ho : ops[j]? = some o) (hst : st j = true) (hw : Region.wanted o (yielded ops a.tmps) = true)
    (hv : ∀ w', S w' → (execOp a.eval o).run P w' = .ok (.value v) w') (h : ∀ K : Act → Prop, (∀ a', wpPlan P ops Q S st brk rest a' w → K a') → K (a.put o.dst v)) : wpPlan P ops Q S st brk (.cons j rest) a w :=
  wpPlan_st ho hst hw hv rfl (h _ fun _ h => h)
theorem effect_list {j : Nat} {must : Bool} {K0 : Act → World → Prop} {a : Act} {w : World} {o : Oper} (ho : ops[j]? = some o) (hw : Region.wanted o (yielded ops a.tmps) = true)
    (h : ∀ K : Act → World → Prop, (∀ a' w', (must = true → S w') → K0 a' w' → K a' w') →
      wpList P ops (fun e a' w' => match e with | .normal => K a' w' | e => Q e a' w') [o] a w) : effect P ops Q S j must K0 a w := by
  simp only [effect, ho]
  rw [if_pos hw]
  have h1 := h (fun a' w' => (must = true → S w') ∧ K0 a' w') (fun a' w' hs hk => ⟨hs, hk⟩)
  simp only [wpList] at h1
  rw [if_pos hw] at h1
  refine h1.imp (fun h2 => ?_) (fun h2 => ⟨h2.1, ?_⟩)
  · unfold Oper.wp at *
    generalize (execOp a.eval o).run P w = r at *
    cases r with
    | ok n w' =>
      cases n <;> simp only [Oper.upon] at h2 ⊢ <;>
        first
          | exact h2
          | exact Calls.mono h2 (fun e w'' he => by cases e <;> first | exact he | exact (by obtain ⟨a1, w1, h3⟩ := he; exact ⟨a1, w1, h3⟩))
          | exact Rows.mono h2 (fun _ _ he => he)
    | halt x w' => cases x <;> simp only [Oper.upon] at h2 ⊢ <;> exact h2
  · obtain ⟨a1, w1, h3⟩ := h2.2
    exact ⟨a1, w1, h3⟩
/-- one step that writes, by the laws of a list -/
theorem wpPlan_list {st brk : Nat → Bool} {j : Nat} {rest : Plan} {a : Act} {w : World} {o : Oper} (ho : ops[j]? = some o) (hst : st j = false) (hw : Region.wanted o (yielded ops a.tmps) = true)
    (h : ∀ K : Act → World → Prop, (∀ a' w', ((!brk j || rest.any st) = true → S w') → wpPlan P ops Q S st brk rest a' w' → K a' w') →
      wpList P ops (fun e a' w' => match e with | .normal => K a' w' | e => Q e a' w') [o] a w) : wpPlan P ops Q S st brk (.cons j rest) a w := by
  simp only [wpPlan, ho, hst, Bool.false_eq_true, if_false]
  exact effect_list ho hw h
/-- one that is not wanted -/
theorem wpPlan_off {st brk : Nat → Bool} {j : Nat} {rest : Plan} {a : Act} {w : World} {o : Oper} (ho : ops[j]? = some o) (hst : st j = true) (hw : Region.wanted o (yielded ops a.tmps) = false)
    (h : ∀ K : Act → Prop, (∀ a', wpPlan P ops Q S st brk rest a' w → K a') → K (a.put o.dst undef)) : wpPlan P ops Q S st brk (.cons j rest) a w := by
  simp only [wpPlan, ho, hst, if_true]
  exact ⟨undef, .inr ⟨hw, rfl⟩, h _ fun _ h => h⟩
/-- one that is wanted is one without a guard -/
theorem wpList_wanted {o : Oper} {rest : List Oper} {a : Act} {w : World} (hw : Region.wanted o (yielded ops a.tmps) = true) (h : wpList P ops Q ({ o with guard := none } :: rest) a w) : wpList P ops Q (o :: rest) a w := by
  unfold wpList at *
  rw [if_pos hw]
  rw [if_pos (by simp [Region.wanted])] at h
  exact h
theorem exec_bytes_str {w : World} {a : Act} {o : Oper} (src dst : TypeId) (x : Operand) (ho : o.op = .convert src dst x) (e : TypeId) (hs : P.underlying src = some (.slice e)) (he : P.underlying e = some (.int .u8)) (hd : P.underlying dst = some .string)
    (v : Value) (l : List UInt8) (hx : a.eval x = v) (hrd : Bs w v l) : (execOp a.eval o).run P w = .ok (.value (.string ⟨l.toArray⟩)) w := by
  have hr := run_bytes_str (P := P) w src dst e v l hs he hd hrd
  unfold execOp
  simp only [ho, hx, hr, Sem.run_bind, Sem.run_pure, Result.andThen_ok]
theorem exec_slice_to {w : World} {a : Act} {o : Oper} (t : TypeId) (x h : Operand) (ho : o.op = .slice t x none (some h) none) (e : TypeId) (size : Nat) (ht : P.underlying t = some (.slice e)) (hsz : (P.info? e).map (·.size) = some size)
    (p : Option Addr) (n cap hi : Nat) (k : IntKind) (hp : p = none → cap = 0) (hx : a.eval x = .slice p n cap) (hh : a.eval h = .int k (hi : Int)) (h2 : hi ≤ cap) : (execOp a.eval o).run P w = .ok (.value (.slice p hi cap)) w := by
  have hr := run_slice_rd (P := P) w t e size ht hsz p n cap 0 hi hp (Nat.zero_le _) h2 none (some (a.eval h)) (.inl ⟨rfl, rfl⟩) (.inr ⟨k, by rw [hh]⟩)
  have hv : Value.slice (if cap = 0 then p else p.map (·.add (0 * size))) (hi - 0) (cap - 0) = .slice p hi cap := by
    have : (if cap = 0 then p else p.map (·.add (0 * size))) = p := by
      split
      · rfl
      · cases p with
        | none => rfl
        | some b => simp [Addr.add]
    rw [this]; rfl
  rw [hv] at hr
  unfold execOp
  simp only [ho, hx, Option.map_none, Option.map_some, hr, Sem.run_bind, Sem.run_pure, Result.andThen_ok]
theorem wpPlan_nil {st brk : Nat → Bool} {a : Act} {w : World} (h : Q .normal a w) : wpPlan P ops Q S st brk .nil a w := h
end
end Go.Proofs.Ytdilkgcoecipjaa
